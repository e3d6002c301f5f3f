import Derived.Test.YtnejcdinieaemaaDoorAbsO
import Derived.Test.YtnejcdinieaemaaDoorTzC
set_option maxRecDepth 100000
set_option linter.all false
set_option maxHeartbeats 4000000
set_option linter.unusedSimpArgs false
set_option linter.unusedVariables false
namespace Go.Proofs.YtnejcdinieaemaaDoor.Tr
open Go.Abs Go.Proofs.YtnejcdinieaemaaDoor.Code Go.Proofs.YtnejcdinieaemaaDoor.Code
def L14S (w : Bool) (m : List Int) (ps : RS) (x17 : Int) (x18 : Int) (y2 : List (El sE)) : Tm := (tg [(2, AV.v (Value.slice none 0 0)), (0, AV.v (.int .i64 0)), (0, AV.ptr 1 0), (1, AV.sw 2 6), (10, AV.v (.int .u64 x17)), (0, AV.v (.int .u64 x18))] 35)
def L14H (w : Bool) (m : List Int) (ps : RS) (x17 : Int) (x18 : Int) (y2 : List (El sE)) : List AObj := [AObj.ints 0 w IntKind.u8 m, AObj.cells 0 true [AV.sw 3 1, AV.v (.int .i64 (pA ps)), AV.v (.int .i64 (pR ps))], AObj.rows true sE y2, AObj.ints 0 false IntKind.u8 m]
def L14T0 (w : Bool) (m : List Int) (o0 : RS) (o1 : Int) (o2 : List (El sE)) : Tm := (tg [(2, AV.v (Value.slice none 0 0)), (0, AV.v (.int .i64 (pR o0))), (0, AV.ptr 1 0), (1, AV.sw 2 6)] 47)
def L14U0 (w : Bool) (m : List Int) (o0 : RS) (o1 : Int) (o2 : List (El sE)) : List AObj := [AObj.ints 0 w IntKind.u8 m, AObj.cells 0 true [AV.sw 3 1, AV.v (.int .i64 (pA o0)), AV.v (.int .i64 o1)], AObj.rows true sE o2, AObj.ints 0 false IntKind.u8 m]
def L14T1 (w : Bool) (m : List Int) (o3 : RS) (o4 : List (El sE)) : Tm := (tg [(2, AV.v (Value.slice none 0 0)), (0, AV.v (.int .i64 0)), (0, AV.ptr 1 0), (1, AV.sw 2 6)] 47)
def L14U1 (w : Bool) (m : List Int) (o3 : RS) (o4 : List (El sE)) : List AObj := [AObj.ints 0 w IntKind.u8 m, AObj.cells 0 true [AV.sw 3 1, AV.v (.int .i64 (pA o3)), AV.v (.int .i64 (pR o3))], AObj.rows true sE o4, AObj.ints 0 false IntKind.u8 m]
theorem L14_1 (w : Bool) (m : List Int) (ps : RS) (x17 : Int) (x18 : Int) (y2 : List (El sE))  (d0 : (ilt x18 x17) = true) (d1 : (ine (pR (iN m (iN m (iN m (iN m (iN m (iN m ps))))))) 0) = true) (s0 : (okS m ps) = true) (s1 : (okS m (iN m ps)) = true) (s2 : (okS m (iN m (iN m ps))) = true) (s3 : (okS m (iN m (iN m (iN m ps)))) = true) (s4 : (okS m (iN m (iN m (iN m (iN m ps))))) = true) (s5 : (okS m (iN m (iN m (iN m (iN m (iN m ps)))))) = true) (s6 : fitN (addN (lenR sE y2) (lenR sE [(iV m ps, iV m (iN m ps), iV m (iN m (iN m ps)), iV m (iN m (iN m (iN m ps))), iV m (iN m (iN m (iN m (iN m ps)))), iV m (iN m (iN m (iN m (iN m (iN m ps))))))])) 48) : ARun Tryd.prog 1 (.loop (lp Tryd.f14 0)) (L14S w m  ps x17 x18 y2) (L14H w m  ps x17 x18 y2) (AExit.ret) (L14T0 w m  (iN m (iN m (iN m (iN m (iN m (iN m ps)))))) (pR (iN m (iN m (iN m (iN m (iN m (iN m ps))))))) (appR sE y2 [(iV m ps, iV m (iN m ps), iV m (iN m (iN m ps)), iV m (iN m (iN m (iN m ps))), iV m (iN m (iN m (iN m (iN m ps)))), iV m (iN m (iN m (iN m (iN m (iN m ps))))))])) (L14U0 w m  (iN m (iN m (iN m (iN m (iN m (iN m ps)))))) (pR (iN m (iN m (iN m (iN m (iN m (iN m ps))))))) (appR sE y2 [(iV m ps, iV m (iN m ps), iV m (iN m (iN m ps)), iV m (iN m (iN m (iN m ps))), iV m (iN m (iN m (iN m (iN m ps)))), iV m (iN m (iN m (iN m (iN m (iN m ps))))))])) :=
  .lastRet [Orc.br true, Orc.call [1, 3] (AV.v (.int .i64 (iV m ps))) [(0, rdC (iN m ps))] [], Orc.call [1, 3] (AV.v (.int .i64 (iV m (iN m ps)))) [(0, rdC (iN m (iN m ps)))] [], Orc.call [1, 3] (AV.v (.int .i64 (iV m (iN m (iN m ps))))) [(0, rdC (iN m (iN m (iN m ps))))] [], Orc.call [1, 3] (AV.v (.int .i64 (iV m (iN m (iN m (iN m ps)))))) [(0, rdC (iN m (iN m (iN m (iN m ps)))))] [], Orc.call [1, 3] (AV.v (.int .i64 (iV m (iN m (iN m (iN m (iN m ps))))))) [(0, rdC (iN m (iN m (iN m (iN m (iN m ps))))))] [], Orc.call [1, 3] (AV.v (.int .i64 (iV m (iN m (iN m (iN m (iN m (iN m ps)))))))) [(0, rdC (iN m (iN m (iN m (iN m (iN m (iN m ps)))))))] [], Orc.call [1, 3] (AV.v (.int .i64 (pR (iN m (iN m (iN m (iN m (iN m (iN m ps))))))))) [] [], Orc.br true, Orc.call [1, 3] (AV.v (.int .i64 (pR (iN m (iN m (iN m (iN m (iN m (iN m ps))))))))) [] []] [2, 3, 4, 6, 43, 49] [0, 1, 6, 3] [isB (ilt x18 x17) true, ACalls Tryd.prog 34 [AV.ptr 0 0] [rdC ps, AObj.ints 0 false IntKind.u8 m] (AV.v (.int .i64 (iV m ps))) [(0, rdC (iN m ps))] [], ACalls Tryd.prog 34 [AV.ptr 0 0] [rdC (iN m ps), AObj.ints 0 false IntKind.u8 m] (AV.v (.int .i64 (iV m (iN m ps)))) [(0, rdC (iN m (iN m ps)))] [], ACalls Tryd.prog 34 [AV.ptr 0 0] [rdC (iN m (iN m ps)), AObj.ints 0 false IntKind.u8 m] (AV.v (.int .i64 (iV m (iN m (iN m ps))))) [(0, rdC (iN m (iN m (iN m ps))))] [], ACalls Tryd.prog 34 [AV.ptr 0 0] [rdC (iN m (iN m (iN m ps))), AObj.ints 0 false IntKind.u8 m] (AV.v (.int .i64 (iV m (iN m (iN m (iN m ps)))))) [(0, rdC (iN m (iN m (iN m (iN m ps)))))] [], ACalls Tryd.prog 34 [AV.ptr 0 0] [rdC (iN m (iN m (iN m (iN m ps)))), AObj.ints 0 false IntKind.u8 m] (AV.v (.int .i64 (iV m (iN m (iN m (iN m (iN m ps))))))) [(0, rdC (iN m (iN m (iN m (iN m (iN m ps))))))] [], ACalls Tryd.prog 34 [AV.ptr 0 0] [rdC (iN m (iN m (iN m (iN m (iN m ps))))), AObj.ints 0 false IntKind.u8 m] (AV.v (.int .i64 (iV m (iN m (iN m (iN m (iN m (iN m ps)))))))) [(0, rdC (iN m (iN m (iN m (iN m (iN m (iN m ps)))))))] [], fitN (addN (lenR sE y2) (lenR sE [(iV m ps, iV m (iN m ps), iV m (iN m (iN m ps)), iV m (iN m (iN m (iN m ps))), iV m (iN m (iN m (iN m (iN m ps)))), iV m (iN m (iN m (iN m (iN m (iN m ps))))))])) 48, ACalls Tryd.prog 35 [AV.ptr 0 0] [rdC (iN m (iN m (iN m (iN m (iN m (iN m ps)))))), AObj.ints 0 false IntKind.u8 m] (AV.v (.int .i64 (pR (iN m (iN m (iN m (iN m (iN m (iN m ps))))))))) [] [], isB (ine (pR (iN m (iN m (iN m (iN m (iN m (iN m ps))))))) 0) true, ACalls Tryd.prog 35 [AV.ptr 0 0] [rdC (iN m (iN m (iN m (iN m (iN m (iN m ps)))))), AObj.ints 0 false IntKind.u8 m] (AV.v (.int .i64 (pR (iN m (iN m (iN m (iN m (iN m (iN m ps))))))))) [] []] (by kernel_rfl) (.cons d0 (.cons (by apply k34 <;> (first | exact (s0))) (.cons (by apply k34 <;> (first | exact (s1))) (.cons (by apply k34 <;> (first | exact (s2))) (.cons (by apply k34 <;> (first | exact (s3))) (.cons (by apply k34 <;> (first | exact (s4))) (.cons (by apply k34 <;> (first | exact (s5))) (.cons (s6) (.cons (by apply k35) (.cons d1 (.cons (by apply k35) .nil)))))))))))
theorem L14_2 (w : Bool) (m : List Int) (ps : RS) (x17 : Int) (x18 : Int) (y2 : List (El sE))  (d0 : (ilt x18 x17) = true) (d1 : (ine (pR (iN m (iN m (iN m (iN m (iN m (iN m ps))))))) 0) = false) (s0 : (okS m ps) = true) (s1 : (okS m (iN m ps)) = true) (s2 : (okS m (iN m (iN m ps))) = true) (s3 : (okS m (iN m (iN m (iN m ps)))) = true) (s4 : (okS m (iN m (iN m (iN m (iN m ps))))) = true) (s5 : (okS m (iN m (iN m (iN m (iN m (iN m ps)))))) = true) (s6 : fitN (addN (lenR sE y2) (lenR sE [(iV m ps, iV m (iN m ps), iV m (iN m (iN m ps)), iV m (iN m (iN m (iN m ps))), iV m (iN m (iN m (iN m (iN m ps)))), iV m (iN m (iN m (iN m (iN m (iN m ps))))))])) 48) {e : AExit} {tm2 : Tm} {h2 : List AObj} (b : ARun Tryd.prog 1 (.loop (lp Tryd.f14 0)) (L14S w m  (iN m (iN m (iN m (iN m (iN m (iN m ps)))))) (x17) (iadd .u64 x18 1) (appR sE y2 [(iV m ps, iV m (iN m ps), iV m (iN m (iN m ps)), iV m (iN m (iN m (iN m ps))), iV m (iN m (iN m (iN m (iN m ps)))), iV m (iN m (iN m (iN m (iN m (iN m ps))))))])) (L14H w m  (iN m (iN m (iN m (iN m (iN m (iN m ps)))))) (x17) (iadd .u64 x18 1) (appR sE y2 [(iV m ps, iV m (iN m ps), iV m (iN m (iN m ps)), iV m (iN m (iN m (iN m ps))), iV m (iN m (iN m (iN m (iN m ps)))), iV m (iN m (iN m (iN m (iN m (iN m ps))))))])) e tm2 h2) : ARun Tryd.prog 1 (.loop (lp Tryd.f14 0)) (L14S w m  ps x17 x18 y2) (L14H w m  ps x17 x18 y2) e tm2 h2 :=
  .round [Orc.br true, Orc.call [1, 3] (AV.v (.int .i64 (iV m ps))) [(0, rdC (iN m ps))] [], Orc.call [1, 3] (AV.v (.int .i64 (iV m (iN m ps)))) [(0, rdC (iN m (iN m ps)))] [], Orc.call [1, 3] (AV.v (.int .i64 (iV m (iN m (iN m ps))))) [(0, rdC (iN m (iN m (iN m ps))))] [], Orc.call [1, 3] (AV.v (.int .i64 (iV m (iN m (iN m (iN m ps)))))) [(0, rdC (iN m (iN m (iN m (iN m ps)))))] [], Orc.call [1, 3] (AV.v (.int .i64 (iV m (iN m (iN m (iN m (iN m ps))))))) [(0, rdC (iN m (iN m (iN m (iN m (iN m ps))))))] [], Orc.call [1, 3] (AV.v (.int .i64 (iV m (iN m (iN m (iN m (iN m (iN m ps)))))))) [(0, rdC (iN m (iN m (iN m (iN m (iN m (iN m ps)))))))] [], Orc.call [1, 3] (AV.v (.int .i64 (pR (iN m (iN m (iN m (iN m (iN m (iN m ps))))))))) [] [], Orc.br false] [2, 3, 4, 6, 17, 18] [0, 1, 6, 3] [isB (ilt x18 x17) true, ACalls Tryd.prog 34 [AV.ptr 0 0] [rdC ps, AObj.ints 0 false IntKind.u8 m] (AV.v (.int .i64 (iV m ps))) [(0, rdC (iN m ps))] [], ACalls Tryd.prog 34 [AV.ptr 0 0] [rdC (iN m ps), AObj.ints 0 false IntKind.u8 m] (AV.v (.int .i64 (iV m (iN m ps)))) [(0, rdC (iN m (iN m ps)))] [], ACalls Tryd.prog 34 [AV.ptr 0 0] [rdC (iN m (iN m ps)), AObj.ints 0 false IntKind.u8 m] (AV.v (.int .i64 (iV m (iN m (iN m ps))))) [(0, rdC (iN m (iN m (iN m ps))))] [], ACalls Tryd.prog 34 [AV.ptr 0 0] [rdC (iN m (iN m (iN m ps))), AObj.ints 0 false IntKind.u8 m] (AV.v (.int .i64 (iV m (iN m (iN m (iN m ps)))))) [(0, rdC (iN m (iN m (iN m (iN m ps)))))] [], ACalls Tryd.prog 34 [AV.ptr 0 0] [rdC (iN m (iN m (iN m (iN m ps)))), AObj.ints 0 false IntKind.u8 m] (AV.v (.int .i64 (iV m (iN m (iN m (iN m (iN m ps))))))) [(0, rdC (iN m (iN m (iN m (iN m (iN m ps))))))] [], ACalls Tryd.prog 34 [AV.ptr 0 0] [rdC (iN m (iN m (iN m (iN m (iN m ps))))), AObj.ints 0 false IntKind.u8 m] (AV.v (.int .i64 (iV m (iN m (iN m (iN m (iN m (iN m ps)))))))) [(0, rdC (iN m (iN m (iN m (iN m (iN m (iN m ps)))))))] [], fitN (addN (lenR sE y2) (lenR sE [(iV m ps, iV m (iN m ps), iV m (iN m (iN m ps)), iV m (iN m (iN m (iN m ps))), iV m (iN m (iN m (iN m (iN m ps)))), iV m (iN m (iN m (iN m (iN m (iN m ps))))))])) 48, ACalls Tryd.prog 35 [AV.ptr 0 0] [rdC (iN m (iN m (iN m (iN m (iN m (iN m ps)))))), AObj.ints 0 false IntKind.u8 m] (AV.v (.int .i64 (pR (iN m (iN m (iN m (iN m (iN m (iN m ps))))))))) [] [], isB (ine (pR (iN m (iN m (iN m (iN m (iN m (iN m ps))))))) 0) false] (by kernel_rfl) (.cons d0 (.cons (by apply k34 <;> (first | exact (s0))) (.cons (by apply k34 <;> (first | exact (s1))) (.cons (by apply k34 <;> (first | exact (s2))) (.cons (by apply k34 <;> (first | exact (s3))) (.cons (by apply k34 <;> (first | exact (s4))) (.cons (by apply k34 <;> (first | exact (s5))) (.cons (s6) (.cons (by apply k35) (.cons d1 .nil)))))))))) b
theorem L14_3 (w : Bool) (m : List Int) (ps : RS) (x17 : Int) (x18 : Int) (y2 : List (El sE))  (d0 : (ilt x18 x17) = false) : ARun Tryd.prog 1 (.loop (lp Tryd.f14 0)) (L14S w m  ps x17 x18 y2) (L14H w m  ps x17 x18 y2) (AExit.exit 0) (L14T1 w m  (ps) (y2)) (L14U1 w m  (ps) (y2)) :=
  .last [Orc.br false] [2, 3, 4, 6, 43, 49] [0, 1, 2, 3] [isB (ilt x18 x17) false] (by kernel_rfl) (.cons d0 .nil)
def L14B (w : Bool) (m : List Int) (ps : RS) (x17 : Int) (x18 : Int) (y2 : List (El sE)) : Option (((RS) × (Int) × (Int) × (List (El sE))) ⊕ (Nat × (RS) × (Int) × (List (El sE)) × (RS) × (List (El sE)))) := (bif ilt x18 x17 then (bif ine (pR (iN m (iN m (iN m (iN m (iN m (iN m ps))))))) 0 then bif decide ((okS m ps) = true) then bif decide ((okS m (iN m ps)) = true) then bif decide ((okS m (iN m (iN m ps))) = true) then bif decide ((okS m (iN m (iN m (iN m ps)))) = true) then bif decide ((okS m (iN m (iN m (iN m (iN m ps))))) = true) then bif decide ((okS m (iN m (iN m (iN m (iN m (iN m ps)))))) = true) then bif decide (fitN (addN (lenR sE y2) (lenR sE [(iV m ps, iV m (iN m ps), iV m (iN m (iN m ps)), iV m (iN m (iN m (iN m ps))), iV m (iN m (iN m (iN m (iN m ps)))), iV m (iN m (iN m (iN m (iN m (iN m ps))))))])) 48) then some (.inr (0, iN m (iN m (iN m (iN m (iN m (iN m ps))))), pR (iN m (iN m (iN m (iN m (iN m (iN m ps)))))), appR sE y2 [(iV m ps, iV m (iN m ps), iV m (iN m (iN m ps)), iV m (iN m (iN m (iN m ps))), iV m (iN m (iN m (iN m (iN m ps)))), iV m (iN m (iN m (iN m (iN m (iN m ps))))))], default, [])) else none else none else none else none else none else none else none else bif decide ((okS m ps) = true) then bif decide ((okS m (iN m ps)) = true) then bif decide ((okS m (iN m (iN m ps))) = true) then bif decide ((okS m (iN m (iN m (iN m ps)))) = true) then bif decide ((okS m (iN m (iN m (iN m (iN m ps))))) = true) then bif decide ((okS m (iN m (iN m (iN m (iN m (iN m ps)))))) = true) then bif decide (fitN (addN (lenR sE y2) (lenR sE [(iV m ps, iV m (iN m ps), iV m (iN m (iN m ps)), iV m (iN m (iN m (iN m ps))), iV m (iN m (iN m (iN m (iN m ps)))), iV m (iN m (iN m (iN m (iN m (iN m ps))))))])) 48) then some (.inl (iN m (iN m (iN m (iN m (iN m (iN m ps))))), x17, iadd .u64 x18 1, appR sE y2 [(iV m ps, iV m (iN m ps), iV m (iN m (iN m ps)), iV m (iN m (iN m (iN m ps))), iV m (iN m (iN m (iN m (iN m ps)))), iV m (iN m (iN m (iN m (iN m (iN m ps))))))])) else none else none else none else none else none else none else none) else some (.inr (1, default, 0, [], ps, y2)))
def L14L (w : Bool) (m : List Int) : Nat → RS → Int → Int → List (El sE) → Option (Nat × (RS) × (Int) × (List (El sE)) × (RS) × (List (El sE)))
  | 0, _, _, _, _ => none
  | fuel + 1, ps, x17, x18, y2 => match L14B w m  ps x17 x18 y2 with
    | none => none
    | some (.inl s) => L14L w m fuel s.1 s.2.1 s.2.2.1 s.2.2.2
    | some (.inr o) => some o
def L14K (w : Bool) (m : List Int) (fuel : Nat) : Option (((RS) × (Int) × (Int) × (List (El sE))) ⊕ (Nat × (RS) × (Int) × (List (El sE)) × (RS) × (List (El sE)))) → Option (Nat × (RS) × (Int) × (List (El sE)) × (RS) × (List (El sE)))
  | none => none
  | some (.inl s) => L14L w m fuel s.1 s.2.1 s.2.2.1 s.2.2.2
  | some (.inr o) => some o
theorem L14LK (w : Bool) (m : List Int) (fuel : Nat) (ps : RS) (x17 : Int) (x18 : Int) (y2 : List (El sE)) : L14L w m (fuel + 1)  ps x17 x18 y2 = L14K w m fuel (L14B w m  ps x17 x18 y2) := by
  rw [L14L]; cases L14B w m  ps x17 x18 y2 with
  | none => rfl
  | some v => cases v <;> rfl
theorem L14P0 (w : Bool) (m : List Int) (fuel : Nat) (ih : ∀ (ps : RS) (x17 : Int) (x18 : Int) (y2 : List (El sE)) (o0 : RS) (o1 : Int) (o2 : List (El sE)) (_ : L14L w m fuel  ps x17 x18 y2 = some (0, o0, o1, o2, default, [])), ARun Tryd.prog 1 (.loop (lp Tryd.f14 0)) (L14S w m  ps x17 x18 y2) (L14H w m  ps x17 x18 y2) (AExit.ret) (L14T0 w m  o0 o1 o2) (L14U0 w m  o0 o1 o2)) (ps : RS) (x17 : Int) (x18 : Int) (y2 : List (El sE)) (o0 : RS) (o1 : Int) (o2 : List (El sE)) (h : L14K w m fuel (L14B w m  ps x17 x18 y2) = some (0, o0, o1, o2, default, [])) : ARun Tryd.prog 1 (.loop (lp Tryd.f14 0)) (L14S w m  ps x17 x18 y2) (L14H w m  ps x17 x18 y2) (AExit.ret) (L14T0 w m  o0 o1 o2) (L14U0 w m  o0 o1 o2) := by
  unfold L14B at h
  exact (splitK h (fun d0 h => (splitK h (fun d1 h => (chkK rfl h (fun s0 h => chkK rfl h (fun s1 h => chkK rfl h (fun s2 h => chkK rfl h (fun s3 h => chkK rfl h (fun s4 h => chkK rfl h (fun s5 h => chkK rfl h (fun s6 h => (by cases h; exact L14_1 w m  ps x17 x18 y2 d0 d1 s0 s1 s2 s3 s4 s5 s6)))))))))) (fun d1 h => (chkK rfl h (fun s0 h => chkK rfl h (fun s1 h => chkK rfl h (fun s2 h => chkK rfl h (fun s3 h => chkK rfl h (fun s4 h => chkK rfl h (fun s5 h => chkK rfl h (fun s6 h => L14_2 w m  ps x17 x18 y2 d0 d1 s0 s1 s2 s3 s4 s5 s6 (ih (iN m (iN m (iN m (iN m (iN m (iN m ps)))))) (x17) (iadd .u64 x18 1) (appR sE y2 [(iV m ps, iV m (iN m ps), iV m (iN m (iN m ps)), iV m (iN m (iN m (iN m ps))), iV m (iN m (iN m (iN m (iN m ps)))), iV m (iN m (iN m (iN m (iN m (iN m ps))))))]) o0 o1 o2 h)))))))))))) (fun d0 h => ((by cases h))))
theorem L140 (w : Bool) (m : List Int) : ∀ (fuel : Nat) (ps : RS) (x17 : Int) (x18 : Int) (y2 : List (El sE)) (o0 : RS) (o1 : Int) (o2 : List (El sE)) (_ : L14L w m  fuel  ps x17 x18 y2 = some (0, o0, o1, o2, default, [])), ARun Tryd.prog 1 (.loop (lp Tryd.f14 0)) (L14S w m  ps x17 x18 y2) (L14H w m  ps x17 x18 y2) (AExit.ret) (L14T0 w m  o0 o1 o2) (L14U0 w m  o0 o1 o2)
  | 0, _, _, _, _, _, _, _, h => by cases h
  | fuel + 1, ps, x17, x18, y2, o0, o1, o2, h => L14P0 w m fuel (L140 w m fuel)  ps x17 x18 y2  o0 o1 o2 (by rw [L14LK] at h; exact h)
theorem L14P1 (w : Bool) (m : List Int) (fuel : Nat) (ih : ∀ (ps : RS) (x17 : Int) (x18 : Int) (y2 : List (El sE)) (o3 : RS) (o4 : List (El sE)) (_ : L14L w m fuel  ps x17 x18 y2 = some (1, default, 0, [], o3, o4)), ARun Tryd.prog 1 (.loop (lp Tryd.f14 0)) (L14S w m  ps x17 x18 y2) (L14H w m  ps x17 x18 y2) (AExit.exit 0) (L14T1 w m  o3 o4) (L14U1 w m  o3 o4)) (ps : RS) (x17 : Int) (x18 : Int) (y2 : List (El sE)) (o3 : RS) (o4 : List (El sE)) (h : L14K w m fuel (L14B w m  ps x17 x18 y2) = some (1, default, 0, [], o3, o4)) : ARun Tryd.prog 1 (.loop (lp Tryd.f14 0)) (L14S w m  ps x17 x18 y2) (L14H w m  ps x17 x18 y2) (AExit.exit 0) (L14T1 w m  o3 o4) (L14U1 w m  o3 o4) := by
  unfold L14B at h
  exact (splitK h (fun d0 h => (splitK h (fun d1 h => (chkK rfl h (fun s0 h => chkK rfl h (fun s1 h => chkK rfl h (fun s2 h => chkK rfl h (fun s3 h => chkK rfl h (fun s4 h => chkK rfl h (fun s5 h => chkK rfl h (fun s6 h => (by cases h)))))))))) (fun d1 h => (chkK rfl h (fun s0 h => chkK rfl h (fun s1 h => chkK rfl h (fun s2 h => chkK rfl h (fun s3 h => chkK rfl h (fun s4 h => chkK rfl h (fun s5 h => chkK rfl h (fun s6 h => L14_2 w m  ps x17 x18 y2 d0 d1 s0 s1 s2 s3 s4 s5 s6 (ih (iN m (iN m (iN m (iN m (iN m (iN m ps)))))) (x17) (iadd .u64 x18 1) (appR sE y2 [(iV m ps, iV m (iN m ps), iV m (iN m (iN m ps)), iV m (iN m (iN m (iN m ps))), iV m (iN m (iN m (iN m (iN m ps)))), iV m (iN m (iN m (iN m (iN m (iN m ps))))))]) o3 o4 h)))))))))))) (fun d0 h => ((by cases h; exact L14_3 w m  ps x17 x18 y2 d0))))
theorem L141 (w : Bool) (m : List Int) : ∀ (fuel : Nat) (ps : RS) (x17 : Int) (x18 : Int) (y2 : List (El sE)) (o3 : RS) (o4 : List (El sE)) (_ : L14L w m  fuel  ps x17 x18 y2 = some (1, default, 0, [], o3, o4)), ARun Tryd.prog 1 (.loop (lp Tryd.f14 0)) (L14S w m  ps x17 x18 y2) (L14H w m  ps x17 x18 y2) (AExit.exit 0) (L14T1 w m  o3 o4) (L14U1 w m  o3 o4)
  | 0, _, _, _, _, _, _, h => by cases h
  | fuel + 1, ps, x17, x18, y2, o3, o4, h => L14P1 w m fuel (L141 w m fuel)  ps x17 x18 y2  o3 o4 (by rw [L14LK] at h; exact h)
def f14r0 (w : Bool) (m : List Int) (L140_0_c : Nat) (L140_0_fuel : Nat) (L140_0_o0 : RS) (L140_0_o1 : Int) (L140_0_o2 : List (El sE)) (L140_0_fuel1 : Nat) (L140_0_o31 : RS) (L140_0_o41 : List (El sE)) : Int := bif (ilt (icv .u64 (nlen (lenI m))) (tV m r0)) then 5 else (bif (Nat.beq L140_0_c 0) then (pR L140_0_o0) else (bif (ine (pR L140_0_o31) 0) then (pR L140_0_o31) else (bif (ilt 0 (lfS m L140_0_o31)) then 4 else 0)))
def f14r1 (w : Bool) (m : List Int) (L140_0_c : Nat) (L140_0_fuel : Nat) (L140_0_o0 : RS) (L140_0_o1 : Int) (L140_0_o2 : List (El sE)) (L140_0_fuel1 : Nat) (L140_0_o31 : RS) (L140_0_o41 : List (El sE)) : List (El sE) := bif (ilt (icv .u64 (nlen (lenI m))) (tV m r0)) then [] else (bif (Nat.beq L140_0_c 0) then [] else (bif (ine (pR L140_0_o31) 0) then [] else (bif (ilt 0 (lfS m L140_0_o31)) then [] else L140_0_o41)))
theorem f14_1 (w : Bool) (m : List Int)  (d0 : (ilt (icv .u64 (nlen (lenI m))) (tV m r0)) = true) (s0 : fitN (lenI m) 1) (s1 : (okS m r0) = true) : ACalls Tryd.prog 14 [AV.sw 0 1] [AObj.ints 0 w IntKind.u8 m] (AV.tup [AV.sw 1 6, AV.v (.int .i64 5)]) [] [AObj.rows true sE []] :=
  ACalls.nb (res := AV.tup [AV.sw 1 6, AV.v (.int .i64 5)]) (.of_out [Orc.call [0] (AV.ptr 1 0) [] [AObj.cells 0 true [AV.sw 2 1, AV.v (.int .i64 (pA r0)), AV.v (.int .i64 (pR r0))], AObj.ints 0 false IntKind.u8 m], Orc.call [1, 2] (AV.v (.int .u64 (tV m r0))) [(0, rdC (iN m r0))] [], Orc.br true, Orc.fin (Gh.nil 2 6 (AObj.rows true sE []))] [0, 3] [ACalls Tryd.prog 32 [AV.sw 0 1] [AObj.ints 0 w IntKind.u8 m] (AV.ptr 1 0) [] [AObj.cells 0 true [AV.sw 2 1, AV.v (.int .i64 (pA r0)), AV.v (.int .i64 (pR r0))], AObj.ints 0 false IntKind.u8 m], ACalls Tryd.prog 33 [AV.ptr 0 0] [rdC r0, AObj.ints 0 false IntKind.u8 m] (AV.v (.int .u64 (tV m r0))) [(0, rdC (iN m r0))] [], isB (ilt (icv .u64 (nlen (lenI m))) (tV m r0)) true] Tryd.func14 (by kernel_rfl) (by kernel_rfl) (.cons (by apply k32 <;> (first | exact (s0))) (.cons (by apply k33 <;> (first | exact (s1))) (.cons d0 .nil))))
theorem f14_2 (w : Bool) (m : List Int) (L140_0_c : Nat) (L140_0_fuel : Nat) (L140_0_o0 : RS) (L140_0_o1 : Int) (L140_0_o2 : List (El sE))  (d0 : (ilt (icv .u64 (nlen (lenI m))) (tV m r0)) = false) (d1 : (Nat.beq L140_0_c 0) = true) (L140_0_h0 : ((ilt (icv .u64 (nlen (lenI m))) (tV m r0)) = false) → ((Nat.beq L140_0_c 0) = true) → (L14L w m L140_0_fuel (iN m r0) (tV m r0) 0 []) = (some (0, L140_0_o0, L140_0_o1, L140_0_o2, instInhabitedRS.default, []))) (s0 : fitN (lenI m) 1) (s1 : (okS m r0) = true) : ACalls Tryd.prog 14 [AV.sw 0 1] [AObj.ints 0 w IntKind.u8 m] (AV.tup [AV.sw 1 6, AV.v (.int .i64 (pR L140_0_o0))]) [] [AObj.rows true sE []] :=
  ACalls.nb (res := AV.tup [AV.sw 1 6, AV.v (.int .i64 (pR L140_0_o0))]) (.of_out [Orc.call [0] (AV.ptr 1 0) [] [AObj.cells 0 true [AV.sw 2 1, AV.v (.int .i64 (pA r0)), AV.v (.int .i64 (pR r0))], AObj.ints 0 false IntKind.u8 m], Orc.call [1, 2] (AV.v (.int .u64 (tV m r0))) [(0, rdC (iN m r0))] [], Orc.br false, Orc.fin (Gh.nil 6 6 (AObj.rows true sE [])), Orc.loop [2, 3, 4, 6, 17, 18] [0, 1, 3, 2] AExit.ret (tg [(2, AV.v (Value.slice none 0 0)), (0, AV.v (.int .i64 (pR L140_0_o0))), (0, AV.ptr 1 0), (1, AV.sw 2 6)] 47) [AObj.ints 0 w IntKind.u8 m, AObj.cells 0 true [AV.sw 3 1, AV.v (.int .i64 (pA L140_0_o0)), AV.v (.int .i64 L140_0_o1)], AObj.rows true sE L140_0_o2, AObj.ints 0 false IntKind.u8 m], Orc.fin (Gh.nil 2 6 (AObj.rows true sE []))] [0, 4] [ACalls Tryd.prog 32 [AV.sw 0 1] [AObj.ints 0 w IntKind.u8 m] (AV.ptr 1 0) [] [AObj.cells 0 true [AV.sw 2 1, AV.v (.int .i64 (pA r0)), AV.v (.int .i64 (pR r0))], AObj.ints 0 false IntKind.u8 m], ACalls Tryd.prog 33 [AV.ptr 0 0] [rdC r0, AObj.ints 0 false IntKind.u8 m] (AV.v (.int .u64 (tV m r0))) [(0, rdC (iN m r0))] [], isB (ilt (icv .u64 (nlen (lenI m))) (tV m r0)) false, _] Tryd.func14 (by kernel_rfl) (by kernel_rfl) (.cons (by apply k32 <;> (first | exact (s0))) (.cons (by apply k33 <;> (first | exact (s1))) (.cons d0 (.cons (L140 _ _ _ _ _ _ _ _ _ _ (L140_0_h0 d0 d1)) .nil)))))
theorem f14_3 (w : Bool) (m : List Int) (L140_0_c : Nat) (L140_0_fuel1 : Nat) (L140_0_o31 : RS) (L140_0_o41 : List (El sE))  (d0 : (ilt (icv .u64 (nlen (lenI m))) (tV m r0)) = false) (d1 : (Nat.beq L140_0_c 0) = false) (d2 : (ine (pR L140_0_o31) 0) = true) (L140_0_h1 : ((ilt (icv .u64 (nlen (lenI m))) (tV m r0)) = false) → ((Nat.beq L140_0_c 0) = false) → (L14L w m L140_0_fuel1 (iN m r0) (tV m r0) 0 []) = (some (1, instInhabitedRS.default, 0, [], L140_0_o31, L140_0_o41))) (s0 : fitN (lenI m) 1) (s1 : (okS m r0) = true) : ACalls Tryd.prog 14 [AV.sw 0 1] [AObj.ints 0 w IntKind.u8 m] (AV.tup [AV.sw 1 6, AV.v (.int .i64 (pR L140_0_o31))]) [] [AObj.rows true sE []] :=
  ACalls.nb (res := AV.tup [AV.sw 1 6, AV.v (.int .i64 (pR L140_0_o31))]) (.of_out [Orc.call [0] (AV.ptr 1 0) [] [AObj.cells 0 true [AV.sw 2 1, AV.v (.int .i64 (pA r0)), AV.v (.int .i64 (pR r0))], AObj.ints 0 false IntKind.u8 m], Orc.call [1, 2] (AV.v (.int .u64 (tV m r0))) [(0, rdC (iN m r0))] [], Orc.br false, Orc.fin (Gh.nil 6 6 (AObj.rows true sE [])), Orc.loop [2, 3, 4, 6, 17, 18] [0, 1, 3, 2] (AExit.exit 0) (tg [(2, AV.v (Value.slice none 0 0)), (0, AV.v (.int .i64 0)), (0, AV.ptr 1 0), (1, AV.sw 2 6)] 47) [AObj.ints 0 w IntKind.u8 m, AObj.cells 0 true [AV.sw 3 1, AV.v (.int .i64 (pA L140_0_o31)), AV.v (.int .i64 (pR L140_0_o31))], AObj.rows true sE L140_0_o41, AObj.ints 0 false IntKind.u8 m], Orc.call [1, 3] (AV.v (.int .i64 (pR L140_0_o31))) [] [], Orc.br true, Orc.call [1, 3] (AV.v (.int .i64 (pR L140_0_o31))) [] [], Orc.fin (Gh.nil 2 6 (AObj.rows true sE []))] [0, 4] [ACalls Tryd.prog 32 [AV.sw 0 1] [AObj.ints 0 w IntKind.u8 m] (AV.ptr 1 0) [] [AObj.cells 0 true [AV.sw 2 1, AV.v (.int .i64 (pA r0)), AV.v (.int .i64 (pR r0))], AObj.ints 0 false IntKind.u8 m], ACalls Tryd.prog 33 [AV.ptr 0 0] [rdC r0, AObj.ints 0 false IntKind.u8 m] (AV.v (.int .u64 (tV m r0))) [(0, rdC (iN m r0))] [], isB (ilt (icv .u64 (nlen (lenI m))) (tV m r0)) false, _, ACalls Tryd.prog 35 [AV.ptr 0 0] [rdC L140_0_o31, AObj.ints 0 false IntKind.u8 m] (AV.v (.int .i64 (pR L140_0_o31))) [] [], isB (ine (pR L140_0_o31) 0) true, ACalls Tryd.prog 35 [AV.ptr 0 0] [rdC L140_0_o31, AObj.ints 0 false IntKind.u8 m] (AV.v (.int .i64 (pR L140_0_o31))) [] []] Tryd.func14 (by kernel_rfl) (by kernel_rfl) (.cons (by apply k32 <;> (first | exact (s0))) (.cons (by apply k33 <;> (first | exact (s1))) (.cons d0 (.cons (L141 _ _ _ _ _ _ _ _ _ (L140_0_h1 d0 d1)) (.cons (by apply k35) (.cons d2 (.cons (by apply k35) .nil))))))))
theorem f14_4 (w : Bool) (m : List Int) (L140_0_c : Nat) (L140_0_fuel1 : Nat) (L140_0_o31 : RS) (L140_0_o41 : List (El sE))  (d0 : (ilt (icv .u64 (nlen (lenI m))) (tV m r0)) = false) (d1 : (Nat.beq L140_0_c 0) = false) (d2 : (ine (pR L140_0_o31) 0) = false) (d3 : (ilt 0 (lfS m L140_0_o31)) = true) (L140_0_h1 : ((ilt (icv .u64 (nlen (lenI m))) (tV m r0)) = false) → ((Nat.beq L140_0_c 0) = false) → (L14L w m L140_0_fuel1 (iN m r0) (tV m r0) 0 []) = (some (1, instInhabitedRS.default, 0, [], L140_0_o31, L140_0_o41))) (s0 : fitN (lenI m) 1) (s1 : (okS m r0) = true) (s2 : ((ilt (icv .u64 (nlen (lenI m))) (tV m r0)) = false) → ((Nat.beq L140_0_c 0) = false) → ((ine (pR L140_0_o31) 0) = false) → (okS m L140_0_o31) = true) : ACalls Tryd.prog 14 [AV.sw 0 1] [AObj.ints 0 w IntKind.u8 m] (AV.tup [AV.sw 1 6, AV.v (.int .i64 4)]) [] [AObj.rows true sE []] :=
  ACalls.nb (res := AV.tup [AV.sw 1 6, AV.v (.int .i64 4)]) (.of_out [Orc.call [0] (AV.ptr 1 0) [] [AObj.cells 0 true [AV.sw 2 1, AV.v (.int .i64 (pA r0)), AV.v (.int .i64 (pR r0))], AObj.ints 0 false IntKind.u8 m], Orc.call [1, 2] (AV.v (.int .u64 (tV m r0))) [(0, rdC (iN m r0))] [], Orc.br false, Orc.fin (Gh.nil 6 6 (AObj.rows true sE [])), Orc.loop [2, 3, 4, 6, 17, 18] [0, 1, 3, 2] (AExit.exit 0) (tg [(2, AV.v (Value.slice none 0 0)), (0, AV.v (.int .i64 0)), (0, AV.ptr 1 0), (1, AV.sw 2 6)] 47) [AObj.ints 0 w IntKind.u8 m, AObj.cells 0 true [AV.sw 3 1, AV.v (.int .i64 (pA L140_0_o31)), AV.v (.int .i64 (pR L140_0_o31))], AObj.rows true sE L140_0_o41, AObj.ints 0 false IntKind.u8 m], Orc.call [1, 3] (AV.v (.int .i64 (pR L140_0_o31))) [] [], Orc.br false, Orc.call [1, 3] (AV.v (.int .i64 (lfS m L140_0_o31))) [] [], Orc.br true, Orc.fin (Gh.nil 2 6 (AObj.rows true sE []))] [0, 4] [ACalls Tryd.prog 32 [AV.sw 0 1] [AObj.ints 0 w IntKind.u8 m] (AV.ptr 1 0) [] [AObj.cells 0 true [AV.sw 2 1, AV.v (.int .i64 (pA r0)), AV.v (.int .i64 (pR r0))], AObj.ints 0 false IntKind.u8 m], ACalls Tryd.prog 33 [AV.ptr 0 0] [rdC r0, AObj.ints 0 false IntKind.u8 m] (AV.v (.int .u64 (tV m r0))) [(0, rdC (iN m r0))] [], isB (ilt (icv .u64 (nlen (lenI m))) (tV m r0)) false, _, ACalls Tryd.prog 35 [AV.ptr 0 0] [rdC L140_0_o31, AObj.ints 0 false IntKind.u8 m] (AV.v (.int .i64 (pR L140_0_o31))) [] [], isB (ine (pR L140_0_o31) 0) false, ACalls Tryd.prog 36 [AV.ptr 0 0] [rdC L140_0_o31, AObj.ints 0 false IntKind.u8 m] (AV.v (.int .i64 (lfS m L140_0_o31))) [] [], isB (ilt 0 (lfS m L140_0_o31)) true] Tryd.func14 (by kernel_rfl) (by kernel_rfl) (.cons (by apply k32 <;> (first | exact (s0))) (.cons (by apply k33 <;> (first | exact (s1))) (.cons d0 (.cons (L141 _ _ _ _ _ _ _ _ _ (L140_0_h1 d0 d1)) (.cons (by apply k35) (.cons d2 (.cons (by apply k36 <;> (first | exact (s2 d0 d1 d2))) (.cons d3 .nil)))))))))
theorem f14_5 (w : Bool) (m : List Int) (L140_0_c : Nat) (L140_0_fuel1 : Nat) (L140_0_o31 : RS) (L140_0_o41 : List (El sE))  (d0 : (ilt (icv .u64 (nlen (lenI m))) (tV m r0)) = false) (d1 : (Nat.beq L140_0_c 0) = false) (d2 : (ine (pR L140_0_o31) 0) = false) (d3 : (ilt 0 (lfS m L140_0_o31)) = false) (L140_0_h1 : ((ilt (icv .u64 (nlen (lenI m))) (tV m r0)) = false) → ((Nat.beq L140_0_c 0) = false) → (L14L w m L140_0_fuel1 (iN m r0) (tV m r0) 0 []) = (some (1, instInhabitedRS.default, 0, [], L140_0_o31, L140_0_o41))) (s0 : fitN (lenI m) 1) (s1 : (okS m r0) = true) (s2 : ((ilt (icv .u64 (nlen (lenI m))) (tV m r0)) = false) → ((Nat.beq L140_0_c 0) = false) → ((ine (pR L140_0_o31) 0) = false) → (okS m L140_0_o31) = true) : ACalls Tryd.prog 14 [AV.sw 0 1] [AObj.ints 0 w IntKind.u8 m] (AV.tup [AV.sw 1 6, AV.v (.int .i64 0)]) [] [AObj.rows true sE L140_0_o41] :=
  ACalls.nb (res := AV.tup [AV.sw 1 6, AV.v (.int .i64 0)]) (.of_out [Orc.call [0] (AV.ptr 1 0) [] [AObj.cells 0 true [AV.sw 2 1, AV.v (.int .i64 (pA r0)), AV.v (.int .i64 (pR r0))], AObj.ints 0 false IntKind.u8 m], Orc.call [1, 2] (AV.v (.int .u64 (tV m r0))) [(0, rdC (iN m r0))] [], Orc.br false, Orc.fin (Gh.nil 6 6 (AObj.rows true sE [])), Orc.loop [2, 3, 4, 6, 17, 18] [0, 1, 3, 2] (AExit.exit 0) (tg [(2, AV.v (Value.slice none 0 0)), (0, AV.v (.int .i64 0)), (0, AV.ptr 1 0), (1, AV.sw 2 6)] 47) [AObj.ints 0 w IntKind.u8 m, AObj.cells 0 true [AV.sw 3 1, AV.v (.int .i64 (pA L140_0_o31)), AV.v (.int .i64 (pR L140_0_o31))], AObj.rows true sE L140_0_o41, AObj.ints 0 false IntKind.u8 m], Orc.call [1, 3] (AV.v (.int .i64 (pR L140_0_o31))) [] [], Orc.br false, Orc.call [1, 3] (AV.v (.int .i64 (lfS m L140_0_o31))) [] [], Orc.br false] [0, 2] [ACalls Tryd.prog 32 [AV.sw 0 1] [AObj.ints 0 w IntKind.u8 m] (AV.ptr 1 0) [] [AObj.cells 0 true [AV.sw 2 1, AV.v (.int .i64 (pA r0)), AV.v (.int .i64 (pR r0))], AObj.ints 0 false IntKind.u8 m], ACalls Tryd.prog 33 [AV.ptr 0 0] [rdC r0, AObj.ints 0 false IntKind.u8 m] (AV.v (.int .u64 (tV m r0))) [(0, rdC (iN m r0))] [], isB (ilt (icv .u64 (nlen (lenI m))) (tV m r0)) false, _, ACalls Tryd.prog 35 [AV.ptr 0 0] [rdC L140_0_o31, AObj.ints 0 false IntKind.u8 m] (AV.v (.int .i64 (pR L140_0_o31))) [] [], isB (ine (pR L140_0_o31) 0) false, ACalls Tryd.prog 36 [AV.ptr 0 0] [rdC L140_0_o31, AObj.ints 0 false IntKind.u8 m] (AV.v (.int .i64 (lfS m L140_0_o31))) [] [], isB (ilt 0 (lfS m L140_0_o31)) false] Tryd.func14 (by kernel_rfl) (by kernel_rfl) (.cons (by apply k32 <;> (first | exact (s0))) (.cons (by apply k33 <;> (first | exact (s1))) (.cons d0 (.cons (L141 _ _ _ _ _ _ _ _ _ (L140_0_h1 d0 d1)) (.cons (by apply k35) (.cons d2 (.cons (by apply k36 <;> (first | exact (s2 d0 d1 d2))) (.cons d3 .nil)))))))))
theorem f14 (w : Bool) (m : List Int) (L140_0_c : Nat) (L140_0_fuel : Nat) (L140_0_o0 : RS) (L140_0_o1 : Int) (L140_0_o2 : List (El sE)) (L140_0_fuel1 : Nat) (L140_0_o31 : RS) (L140_0_o41 : List (El sE)) (L140_0_h0 : ((ilt (icv .u64 (nlen (lenI m))) (tV m r0)) = false) → ((Nat.beq L140_0_c 0) = true) → (L14L w m L140_0_fuel (iN m r0) (tV m r0) 0 []) = (some (0, L140_0_o0, L140_0_o1, L140_0_o2, instInhabitedRS.default, []))) (L140_0_h1 : ((ilt (icv .u64 (nlen (lenI m))) (tV m r0)) = false) → ((Nat.beq L140_0_c 0) = false) → (L14L w m L140_0_fuel1 (iN m r0) (tV m r0) 0 []) = (some (1, instInhabitedRS.default, 0, [], L140_0_o31, L140_0_o41))) (s0 : fitN (lenI m) 1) (s1 : (okS m r0) = true) (s2 : ((ilt (icv .u64 (nlen (lenI m))) (tV m r0)) = false) → ((Nat.beq L140_0_c 0) = false) → ((ine (pR L140_0_o31) 0) = false) → (okS m L140_0_o31) = true) : ACalls Tryd.prog 14 [AV.sw 0 1] [AObj.ints 0 w IntKind.u8 m] (AV.tup [AV.sw 1 6, AV.v (.int .i64 (f14r0 w m L140_0_c L140_0_fuel L140_0_o0 L140_0_o1 L140_0_o2 L140_0_fuel1 L140_0_o31 L140_0_o41))]) [] [AObj.rows true sE (f14r1 w m L140_0_c L140_0_fuel L140_0_o0 L140_0_o1 L140_0_o2 L140_0_fuel1 L140_0_o31 L140_0_o41)] := by
  have h := (ACalls.cond (ilt (icv .u64 (nlen (lenI m))) (tV m r0)) (fun d0 => (f14_1 w m d0 s0 s1)) (fun d0 => (ACalls.cond (Nat.beq L140_0_c 0) (fun d1 => (f14_2 w m L140_0_c L140_0_fuel L140_0_o0 L140_0_o1 L140_0_o2 d0 d1 L140_0_h0 s0 s1)) (fun d1 => (ACalls.cond (ine (pR L140_0_o31) 0) (fun d2 => (f14_3 w m L140_0_c L140_0_fuel1 L140_0_o31 L140_0_o41 d0 d1 d2 L140_0_h1 s0 s1)) (fun d2 => (ACalls.cond (ilt 0 (lfS m L140_0_o31)) (fun d3 => (f14_4 w m L140_0_c L140_0_fuel1 L140_0_o31 L140_0_o41 d0 d1 d2 d3 L140_0_h1 s0 s1 s2)) (fun d3 => (f14_5 w m L140_0_c L140_0_fuel1 L140_0_o31 L140_0_o41 d0 d1 d2 d3 L140_0_h1 s0 s1 s2)))))))))
  simp only [c_int, c_bool, c_str, c_agg, c_tup, c_fn, c_ifc, c_sl, c_pe, c_ptr, c_rows, c_siter, c_consA, c_consU, c_consO, c_cells, c_ints, c_bools, c_strs, c_same] at h
  exact h
end Go.Proofs.YtnejcdinieaemaaDoor.Tr

set_option linter.all false
set_option maxRecDepth 100000
/- Decode: what both come to. -/
namespace Go.Proofs.YtnejcdinieaemaaDoor.Tr
open Go.Abs Go.Proofs.YtnejcdinieaemaaDoor.Code Go.Proofs.YtnejcdinieaemaaDoor.Code
theorem iN_ok {m : List Int} {s : RS} (h : okS m s = true) : okS m (iN m s) = true := by
  have h' : okC m s.a = true := h
  obtain ⟨q1, q2⟩ := okC_iff.1 h'
  have sp := num0_spec h'
  show okC m (upA m s.a s.r mxU) = true
  unfold upA
  cases hb : upOk m s.a s.r mxU with
  | false => exact h'
  | true =>
    have hb' : s.r = 0 ∧ (num0 m s.a).2.2 = 0 ∧ (num0 m s.a).1 ≤ mxU := of_decide_eq_true hb
    have := sp.2.2.2.1 hb'.2.1
    refine okC_iff.2 ⟨?_, q2⟩
    simp only [cond_true]
    omega
def six (m : List Int) (s : RS) : RS := iN m (iN m (iN m (iN m (iN m (iN m s)))))
def sixE (m : List Int) (s : RS) : El sE := (iV m s, iV m (iN m s), iV m (iN m (iN m s)), iV m (iN m (iN m (iN m s))), iV m (iN m (iN m (iN m (iN m s)))), iV m (iN m (iN m (iN m (iN m (iN m s))))))
/-- the entries that are read, one by one, up to an error -/
def run (m : List Int) : Nat → RS → List (El sE) → RS × List (El sE)
  | 0, s, y => (s, y)
  | j + 1, s, y => if pR s = 0 then run m j (six m s) (y ++ [sixE m s]) else (s, y)
theorem six_ok {m : List Int} {s : RS} (h : okS m s = true) : okS m (six m s) = true := iN_ok (iN_ok (iN_ok (iN_ok (iN_ok (iN_ok h)))))
theorem run_stop {m : List Int} (j : Nat) {s : RS} (y : List (El sE)) (h : pR s ≠ 0) : run m j s y = (s, y) := by
  cases j with
  | zero => rfl
  | succ j => unfold run; rw [if_neg h]
theorem run_ok {m : List Int} : ∀ (j : Nat) {s : RS} (y : List (El sE)), okS m s = true → okS m (run m j s y).1 = true
  | 0, s, y, h => h
  | j + 1, s, y, h => by
    unfold run
    split
    · exact run_ok j _ (six_ok h)
    · exact h
theorem au1 (k : Nat) (h : k ≤ 5000) : iadd .u64 (k : Int) 1 = ((k + 1 : Nat) : Int) := by unfold iadd; rw [w_u64]; omega
theorem app_r (y : List (El sE)) (e : El sE) : appR sE y [e] = y ++ [e] := rfl
theorem fit_r {y : List (El sE)} {e : El sE} (h : y.length ≤ 5000) : fitN (addN (lenR sE y) (lenR sE [e])) 48 := by unfold fitN addN lenR; simp; omega
structure Oks (m : List Int) (s : RS) : Prop where
  a0 : okS m s = true
  a1 : okS m (iN m s) = true
  a2 : okS m (iN m (iN m s)) = true
  a3 : okS m (iN m (iN m (iN m s))) = true
  a4 : okS m (iN m (iN m (iN m (iN m s)))) = true
  a5 : okS m (iN m (iN m (iN m (iN m (iN m s))))) = true
theorem oks {m : List Int} {s : RS} (h : okS m s = true) : Oks m s := ⟨h, iN_ok h, iN_ok (iN_ok h), iN_ok (iN_ok (iN_ok h)), iN_ok (iN_ok (iN_ok (iN_ok h))), iN_ok (iN_ok (iN_ok (iN_ok (iN_ok h))))⟩
theorem l14 (w : Bool) (m : List Int) (n : Nat) (hn : n ≤ 5000) : ∀ (j k : Nat) (s : RS) (y : List (El sE)), k + j = n → okS m s = true → y.length ≤ k → (pR s = 0 ∨ j = 0) →
    L14L w m (j + 1) s (n : Int) (k : Int) y = some (1, default, 0, [], (run m j s y).1, (run m j s y).2) ∨
      (pR (run m j s y).1 ≠ 0 ∧ L14L w m (j + 1) s (n : Int) (k : Int) y = some (0, (run m j s y).1, pR (run m j s y).1, (run m j s y).2, default, []))
  | 0, k, s, y, h, hs, hy, hp => by
    have e0 : ilt (k : Int) (n : Int) = false := by rw [ilt_d]; simp; omega
    left
    rw [L14LK]; unfold L14B; rw [e0]; rfl
  | j + 1, k, s, y, h, hs, hy, hp => by
    have e0 : ilt (k : Int) (n : Int) = true := by rw [ilt_d]; simp; omega
    have hr : pR s = 0 := hp.resolve_right (by omega)
    have H := oks hs
    have e2 : run m (j + 1) s y = run m j (six m s) (y ++ [sixE m s]) := by rw [run, if_pos hr]
    rw [L14LK, e2]; unfold L14B
    by_cases hq : pR (six m s) = 0
    · have e1 : ine (pR (iN m (iN m (iN m (iN m (iN m (iN m s))))))) 0 = false := by rw [ine_d]; have hq : pR (iN m (iN m (iN m (iN m (iN m (iN m s)))))) = 0 := hq; simpa using hq
      simp only [e0, e1, cond_true, cond_false, H.a0, H.a1, H.a2, H.a3, H.a4, H.a5, decide_true, decide_eq_true (fit_r (y := y) (by omega)), au1 k (by omega), app_r]
      exact l14 w m n hn j (k + 1) (six m s) (y ++ [sixE m s]) (by omega) (six_ok hs) (by simp; omega) (.inl hq)
    · have e1 : ine (pR (iN m (iN m (iN m (iN m (iN m (iN m s))))))) 0 = true := by rw [ine_d]; have hq : pR (iN m (iN m (iN m (iN m (iN m (iN m s)))))) ≠ 0 := hq; simpa using hq
      right
      rw [run_stop j _ hq]
      refine ⟨hq, ?_⟩
      simp only [e0, e1, cond_true, H.a0, H.a1, H.a2, H.a3, H.a4, H.a5, decide_true, decide_eq_true (fit_r (y := y) (by omega)), app_r]
      rfl
/-- what is decoded: error, entries -/
def dR (m : List Int) : RS × List (El sE) := run m (tV m r0).toNat (iN m r0) []
def dE (m : List Int) : Int := if (m.length : Int) < tV m r0 then 5 else if pR (dR m).1 ≠ 0 then pR (dR m).1 else if pA (dR m).1 < m.length then 4 else 0
def dL (m : List Int) : List (El sE) := if dE m = 0 then (dR m).2 else []
def byM (m : List Int) : Bool := decide (m.length ≤ 5000) && byB m
theorem dE_5 {m : List Int} (h : (m.length : Int) < tV m r0) : dE m = 5 := by unfold dE; rw [if_pos h]
section
variable {m : List Int} (hm : byM m = true)
include hm
theorem ok_r0 : okS m r0 = true := by
  unfold byM at hm; rw [Bool.and_eq_true, decide_eq_true_eq] at hm
  exact okC_iff.2 ⟨⟨Int.le_refl _, Int.natCast_nonneg _, by omega⟩, hm.2⟩
theorem len_m : m.length ≤ 5000 := by unfold byM at hm; rw [Bool.and_eq_true, decide_eq_true_eq] at hm; exact hm.1
theorem t_nn : 0 ≤ tV m r0 := (u64B_iff.1 (upV_u64 (ok_r0 hm) _ _)).1
theorem icm : icv .u64 (nlen (lenI m)) = (m.length : Int) := by have := len_m hm; unfold icv nlen lenI; rw [w_u64]; omega
theorem t_zero (h : pR (iN m r0) ≠ 0) : tV m r0 = 0 := by
  have h : upR m 0 0 mxU ≠ 0 := h
  show upV m 0 0 mxU = 0
  unfold upR at h
  unfold upV upOk
  by_cases c1 : (num0 m 0).2.2 = 0
  · by_cases c2 : (num0 m 0).1 ≤ mxU
    · simp [c1, c2] at h
    · rw [decide_eq_false (by rintro ⟨-, -, h3⟩; exact c2 h3)]; rfl
  · rw [decide_eq_false (by rintro ⟨-, h3, -⟩; exact c1 h3)]; rfl
theorem lf_eq (s : RS) (h : pR s = 0) : ilt 0 (lfS m s) = ilt (pA s) (nlen (lenI m)) := by
  have h : s.r = 0 := h
  rw [ilt_d, ilt_d]
  show decide (0 < lefC m s.a s.r) = decide (s.a < (m.length : Int))
  unfold lefC
  rw [if_pos h]
  exact decide_eq_decide.2 (by omega)
theorem c14 (w : Bool) : ACalls Tryd.prog 14 [AV.sw 0 1] [AObj.ints 0 w .u8 m] (AV.tup [AV.sw 1 6, AV.v (.int .i64 (dE m))]) [] [AObj.rows true sE (dL m)] := by
  have hl := len_m hm
  have ht := t_nn hm
  have hfit : fitN (lenI m) 1 := by unfold fitN lenI; omega
  have hrok : okS m (dR m).1 = true := run_ok _ _ (iN_ok (ok_r0 hm))
  by_cases a1 : (m.length : Int) < tV m r0
  · have h := f14 w m 0 0 default 0 [] 0 default [] (fun e => by rw [icm hm, ilt_d, decide_eq_false_iff_not] at e; exact (e a1).elim) (fun e => by rw [icm hm, ilt_d, decide_eq_false_iff_not] at e; exact (e a1).elim) hfit (ok_r0 hm) (fun e => by rw [icm hm, ilt_d, decide_eq_false_iff_not] at e; exact (e a1).elim)
    have e0 : f14r0 w m 0 0 default 0 [] 0 default [] = dE m := by unfold f14r0; rw [icm hm, ilt_d, decide_eq_true a1, dE_5 a1]; rfl
    have e1 : f14r1 w m 0 0 default 0 [] 0 default [] = dL m := by unfold f14r1 dL; rw [icm hm, ilt_d, decide_eq_true a1, dE_5 a1]; rfl
    rw [e0, e1] at h; exact h
  · have hs : pR (iN m r0) = 0 ∨ (tV m r0).toNat = 0 := by
      by_cases q : pR (iN m r0) = 0
      · exact .inl q
      · right; rw [t_zero hm q]; rfl
    have tn : (((tV m r0).toNat : Nat) : Int) = tV m r0 := by omega
    rcases l14 w m (tV m r0).toNat (by omega) (tV m r0).toNat 0 (iN m r0) [] (by omega) (iN_ok (ok_r0 hm)) (by simp) hs with h1 | ⟨hp, h1⟩
    · rw [tn] at h1
      have h := f14 w m 1 0 default 0 [] ((tV m r0).toNat + 1) (dR m).1 (dR m).2 (fun _ e => by cases e) (fun _ _ => h1) hfit (ok_r0 hm) (fun _ _ _ => hrok)
      have e0 : f14r0 w m 1 0 default 0 [] ((tV m r0).toNat + 1) (dR m).1 (dR m).2 = dE m := by
        unfold f14r0 dE
        rw [icm hm, ilt_d, decide_eq_false a1, if_neg a1]
        by_cases a2 : pR (dR m).1 = 0
        · rw [lf_eq hm _ a2, cond_if, cond_if, cond_if, cond_if]; simp [ilt_d, ine_d, a2, nlen, lenI]
        · simp [ine_d, a2]; rfl
      have e1 : f14r1 w m 1 0 default 0 [] ((tV m r0).toNat + 1) (dR m).1 (dR m).2 = dL m := by
        unfold f14r1 dL dE
        rw [icm hm, ilt_d, decide_eq_false a1, if_neg a1]
        by_cases a2 : pR (dR m).1 = 0
        · rw [lf_eq hm _ a2, ilt_d]
          by_cases a3 : pA (dR m).1 < (m.length : Int)
          · simp [ine_d, a2, a3, nlen, lenI]
          · simp [ine_d, a2, a3, nlen, lenI]; rfl
        · simp [ine_d, a2]
      rw [e0, e1] at h; exact h
    · rw [tn] at h1
      have h := f14 w m 0 ((tV m r0).toNat + 1) (dR m).1 (pR (dR m).1) (dR m).2 0 default [] (fun _ _ => h1) (fun _ e => by cases e) hfit (ok_r0 hm) (fun _ e => by cases e)
      have hp : pR (dR m).1 ≠ 0 := hp
      have e0 : f14r0 w m 0 ((tV m r0).toNat + 1) (dR m).1 (pR (dR m).1) (dR m).2 0 default [] = dE m := by
        unfold f14r0 dE
        rw [icm hm, ilt_d, decide_eq_false a1, if_neg a1, if_pos hp]; rfl
      have e1 : f14r1 w m 0 ((tV m r0).toNat + 1) (dR m).1 (pR (dR m).1) (dR m).2 0 default [] = dL m := by
        unfold f14r1 dL dE
        rw [icm hm, ilt_d, decide_eq_false a1, if_neg a1, if_pos hp, if_neg hp]; rfl
      rw [e0, e1] at h; exact h
end
end Go.Proofs.YtnejcdinieaemaaDoor.Tr

set_option maxRecDepth 100000
set_option linter.all false
set_option maxHeartbeats 4000000
set_option linter.unusedSimpArgs false
set_option linter.unusedVariables false
namespace Go.Proofs.YtnejcdinieaemaaDoor.Tr
open Go.Abs Go.Proofs.YtnejcdinieaemaaDoor.Code Go.Proofs.YtnejcdinieaemaaDoor.Code
def L18S (w : Bool) (v : Bool) (l : List (El sE)) (x5 : Int) : Tm := (tg [(0, AV.sw 0 6), (0, AV.sw 1 6), (2, AV.v (Value.bool false)), (0, AV.v (.int .i64 x5))] 20)
def L18H (w : Bool) (v : Bool) (l : List (El sE)) (x5 : Int) : List AObj := [AObj.rows w sE l, AObj.rows v sE l]
def L18T (w : Bool) (v : Bool) (l : List (El sE)) : Tm := (tg [(4, AV.v (Value.bool false))] 21)
def L18U (w : Bool) (v : Bool) (l : List (El sE)) : List AObj := [AObj.rows w sE l, AObj.rows v sE l]
theorem L18_1 (w : Bool) (v : Bool) (l : List (El sE)) (x5 : Int)  (d0 : (ilt x5 (nlen (lenR sE l))) = true) (s0 : inB x5 (lenR sE l)) (s1 : ltN (idxN 0 x5) (lenR sE l)) {e : AExit} {tm2 : Tm} {h2 : List AObj} (b : ARun Tryd.prog 2 (.loop (lp Tryd.f18 0)) (L18S w v l  (iadd .i64 x5 1)) (L18H w v l  (iadd .i64 x5 1)) e tm2 h2) : ARun Tryd.prog 2 (.loop (lp Tryd.f18 0)) (L18S w v l  x5) (L18H w v l  x5) e tm2 h2 :=
  .round [Orc.br true, Orc.br false] [0, 1, 4, 5] [0, 1] [isB (ilt x5 (nlen (lenR sE l))) true, Mixed Tryd.prog, inB x5 (lenR sE l), ltN (idxN 0 x5) (lenR sE l), inB x5 (lenR sE l), ltN (idxN 0 x5) (lenR sE l), isB (notB (andB (ieq ((getR sE l (idxN 0 x5)).1) ((getR sE l (idxN 0 x5)).1)) (andB (ieq (((getR sE l (idxN 0 x5)).2).1) (((getR sE l (idxN 0 x5)).2).1)) (andB (ieq ((((getR sE l (idxN 0 x5)).2).2).1) ((((getR sE l (idxN 0 x5)).2).2).1)) (andB (ieq (((((getR sE l (idxN 0 x5)).2).2).2).1) (((((getR sE l (idxN 0 x5)).2).2).2).1)) (andB (ieq ((((((getR sE l (idxN 0 x5)).2).2).2).2).1) ((((((getR sE l (idxN 0 x5)).2).2).2).2).1)) (ieq ((((((getR sE l (idxN 0 x5)).2).2).2).2).2) ((((((getR sE l (idxN 0 x5)).2).2).2).2).2)))))))) false] (by kernel_rfl) (.cons d0 (.cons (by show _ = _; kernel_rfl) (.cons (s0) (.cons (s1) (.cons (s0) (.cons (s1) (.cons (rf_not (rf_and (rf_ieq _) (rf_and (rf_ieq _) (rf_and (rf_ieq _) (rf_and (rf_ieq _) (rf_and (rf_ieq _) (rf_ieq _))))))) .nil))))))) b
theorem L18_2 (w : Bool) (v : Bool) (l : List (El sE)) (x5 : Int)  (d0 : (ilt x5 (nlen (lenR sE l))) = false) : ARun Tryd.prog 2 (.loop (lp Tryd.f18 0)) (L18S w v l  x5) (L18H w v l  x5) (AExit.exit 0) (L18T w v l ) (L18U w v l ) :=
  .last [Orc.br false] [4] [0, 1] [isB (ilt x5 (nlen (lenR sE l))) false] (by kernel_rfl) (.cons d0 .nil)
def L18B (w : Bool) (v : Bool) (l : List (El sE)) (x5 : Int) : Option (((Int)) ⊕ (Unit)) := (bif ilt x5 (nlen (lenR sE l)) then bif decide (inB x5 (lenR sE l)) then bif decide (ltN (idxN 0 x5) (lenR sE l)) then some (.inl (iadd .i64 x5 1)) else none else none else some (.inr ()))
def L18L (w : Bool) (v : Bool) (l : List (El sE)) : Nat → Int → Option (Unit)
  | 0, _ => none
  | fuel + 1, x5 => match L18B w v l  x5 with
    | none => none
    | some (.inl s) => L18L w v l fuel s
    | some (.inr o) => some o
def L18K (w : Bool) (v : Bool) (l : List (El sE)) (fuel : Nat) : Option (((Int)) ⊕ (Unit)) → Option (Unit)
  | none => none
  | some (.inl s) => L18L w v l fuel s
  | some (.inr o) => some o
theorem L18LK (w : Bool) (v : Bool) (l : List (El sE)) (fuel : Nat) (x5 : Int) : L18L w v l (fuel + 1)  x5 = L18K w v l fuel (L18B w v l  x5) := by
  rw [L18L]; cases L18B w v l  x5 with
  | none => rfl
  | some v => cases v <;> rfl
theorem L18P (w : Bool) (v : Bool) (l : List (El sE)) (fuel : Nat) (ih : ∀ (x5 : Int) (_ : L18L w v l fuel  x5 = some ()), ARun Tryd.prog 2 (.loop (lp Tryd.f18 0)) (L18S w v l  x5) (L18H w v l  x5) (AExit.exit 0) (L18T w v l ) (L18U w v l )) (x5 : Int) (h : L18K w v l fuel (L18B w v l  x5) = some ()) : ARun Tryd.prog 2 (.loop (lp Tryd.f18 0)) (L18S w v l  x5) (L18H w v l  x5) (AExit.exit 0) (L18T w v l ) (L18U w v l ) := by
  unfold L18B at h
  exact (splitK h (fun d0 h => (chkK rfl h (fun s0 h => chkK rfl h (fun s1 h => L18_1 w v l  x5 d0 s0 s1 (ih (iadd .i64 x5 1)  h))))) (fun d0 h => ((by cases h; exact L18_2 w v l  x5 d0))))
theorem L18 (w : Bool) (v : Bool) (l : List (El sE)) : ∀ (fuel : Nat) (x5 : Int) (_ : L18L w v l  fuel  x5 = some ()), ARun Tryd.prog 2 (.loop (lp Tryd.f18 0)) (L18S w v l  x5) (L18H w v l  x5) (AExit.exit 0) (L18T w v l ) (L18U w v l )
  | 0, _, h => by cases h
  | fuel + 1, x5, h => L18P w v l fuel (L18 w v l fuel)  x5  (by rw [L18LK] at h; exact h)
theorem f18_1 (w : Bool) (v : Bool) (l : List (El sE)) (L18_0_fuel : Nat)  (L18_0_h0 : (L18L w v l L18_0_fuel 0) = (some Unit.unit)) : ACalls Tryd.prog 18 [AV.sw 0 6, AV.sw 1 6] [AObj.rows w sE l, AObj.rows v sE l] (AV.v (Value.bool true)) [] [] :=
  ACalls.nb (res := AV.v (Value.bool true)) (.of_out [Orc.br false, Orc.loop [0, 1, 4, 5] [0, 1] (AExit.exit 0) (tg [(4, AV.v (Value.bool false))] 21) [AObj.rows w sE l, AObj.rows v sE l]] [0, 1] [isB (ine (nlen (lenR sE l)) (nlen (lenR sE l))) false, _] Tryd.func18 (by kernel_rfl) (by kernel_rfl) (.cons (rf_ine _) (.cons (L18 _ _ _ _ _ (L18_0_h0)) .nil)))
theorem f18 (w : Bool) (v : Bool) (l : List (El sE)) (L18_0_fuel : Nat) (L18_0_h0 : (L18L w v l L18_0_fuel 0) = (some Unit.unit)) : ACalls Tryd.prog 18 [AV.sw 0 6, AV.sw 1 6] [AObj.rows w sE l, AObj.rows v sE l] (AV.v (Value.bool true)) [] [] := (f18_1 w v l L18_0_fuel L18_0_h0)
theorem l18 (w v : Bool) (l : List (El sE)) (hn : l.length ≤ 2000) : ∀ (j i : Nat), i + j = l.length → L18L w v l (j + 1) (i : Int) = some ()
  | 0, i, h => by
    have e0 : ilt (i : Int) (nlen (lenR sE l)) = false := by rw [ilt_d]; unfold nlen lenR; simp; omega
    rw [L18LK]; unfold L18B; rw [e0]; rfl
  | j + 1, i, h => by
    have e0 : ilt (i : Int) (nlen (lenR sE l)) = true := by rw [ilt_d]; unfold nlen lenR; simp; omega
    have e1 : inB (i : Int) (lenR sE l) := by unfold inB lenR; omega
    have e2 : ltN (idxN 0 (i : Int)) (lenR sE l) := by unfold ltN idxN lenR; omega
    have e3 : iadd .i64 (i : Int) 1 = ((i + 1 : Nat) : Int) := by unfold iadd; rw [w_i64_in (by omega)]; omega
    rw [L18LK]; unfold L18B; simp only [e0, decide_eq_true e1, decide_eq_true e2, cond_true, e3]
    exact l18 w v l hn j (i + 1) (by omega)
def smR (l : List (El sE)) : Bool := decide (l.length ≤ 2000)
theorem g18 (w v : Bool) (l : List (El sE)) (h : smR l = true) : ACalls Tryd.prog 18 [AV.sw 0 6, AV.sw 1 6] [AObj.rows w sE l, AObj.rows v sE l] (AV.v (Value.bool true)) [] [] :=
  f18 w v l (l.length + 1) (l18 w v l (of_decide_eq_true h) l.length 0 (by omega))
end Go.Proofs.YtnejcdinieaemaaDoor.Tr

set_option maxRecDepth 100000
set_option linter.all false
set_option maxHeartbeats 4000000
set_option linter.unusedSimpArgs false
set_option linter.unusedVariables false
namespace Go.Proofs.YtnejcdinieaemaaDoor.Tr
open Go.Abs Go.Proofs.YtnejcdinieaemaaDoor.Code Go.Proofs.YtnejcdinieaemaaDoor.Code
def L19S (w : Bool) (l : List (El sE)) (k : Int) (f : Int) (x11 : Int) (x7 : Int) (x12 : Int) : Tm := (tg [(1, AV.v (.int .i64 k)), (0, AV.v (.int .i64 f)), (3, AV.v (.int .i64 0)), (0, AV.v (.int .i64 x7)), (2, AV.sw 0 6), (0, AV.v (.int .i64 x11)), (0, AV.v (.int .i64 x12))] 25)
def L19H (w : Bool) (l : List (El sE)) (k : Int) (f : Int) (x11 : Int) (x7 : Int) (x12 : Int) : List AObj := [AObj.rows w sE l]
def L19T (w : Bool) (l : List (El sE)) (k : Int) (f : Int) (o0 : Int) : Tm := (tg [(6, AV.v (.int .i64 0)), (0, AV.v (.int .i64 o0))] 30)
def L19U (w : Bool) (l : List (El sE)) (k : Int) (f : Int) (o0 : Int) : List AObj := [AObj.rows w sE l]
theorem L19_1 (w : Bool) (l : List (El sE)) (k : Int) (f : Int) (x11 : Int) (x7 : Int) (x12 : Int)  (d0 : (ilt x12 x11) = true) (d1 : (ieq k 0) = true) (d2 : (ilt f 0) = true) (s0 : inB x12 (lenR sE l)) (s1 : ltN (idxN 0 x12) (lenR sE l)) {e : AExit} {tm2 : Tm} {h2 : List AObj} (b : ARun Tryd.prog 1 (.loop (lp Tryd.f19 0)) (L19S w l k f  (x11) (iadd .i64 x7 1) (iadd .i64 x12 1)) (L19H w l k f  (x11) (iadd .i64 x7 1) (iadd .i64 x12 1)) e tm2 h2) : ARun Tryd.prog 1 (.loop (lp Tryd.f19 0)) (L19S w l k f  x11 x7 x12) (L19H w l k f  x11 x7 x12) e tm2 h2 :=
  .round [Orc.br true, Orc.br true, Orc.br true, Orc.br true, Orc.br true] [1, 2, 6, 7, 10, 11, 12] [0] [isB (ilt x12 x11) true, inB x12 (lenR sE l), ltN (idxN 0 x12) (lenR sE l), isB (ieq k 0) true, isB true true, isB (ilt f 0) true, isB true true] (by kernel_rfl) (.cons d0 (.cons (s0) (.cons (s1) (.cons d1 (.cons (by show _ = _; kernel_rfl) (.cons d2 (.cons (by show _ = _; kernel_rfl) .nil))))))) b
theorem L19_2 (w : Bool) (l : List (El sE)) (k : Int) (f : Int) (x11 : Int) (x7 : Int) (x12 : Int)  (d0 : (ilt x12 x11) = true) (d1 : (ieq k 0) = true) (d2 : (ilt f 0) = false) (d3 : (ieq ((((getR sE l (idxN 0 x12)).2).2).1) f) = true) (s0 : inB x12 (lenR sE l)) (s1 : ltN (idxN 0 x12) (lenR sE l)) {e : AExit} {tm2 : Tm} {h2 : List AObj} (b : ARun Tryd.prog 1 (.loop (lp Tryd.f19 0)) (L19S w l k f  (x11) (iadd .i64 x7 1) (iadd .i64 x12 1)) (L19H w l k f  (x11) (iadd .i64 x7 1) (iadd .i64 x12 1)) e tm2 h2) : ARun Tryd.prog 1 (.loop (lp Tryd.f19 0)) (L19S w l k f  x11 x7 x12) (L19H w l k f  x11 x7 x12) e tm2 h2 :=
  .round [Orc.br true, Orc.br true, Orc.br true, Orc.br false, Orc.br true] [1, 2, 6, 7, 10, 11, 12] [0] [isB (ilt x12 x11) true, inB x12 (lenR sE l), ltN (idxN 0 x12) (lenR sE l), isB (ieq k 0) true, isB true true, isB (ilt f 0) false, isB (ieq ((((getR sE l (idxN 0 x12)).2).2).1) f) true] (by kernel_rfl) (.cons d0 (.cons (s0) (.cons (s1) (.cons d1 (.cons (by show _ = _; kernel_rfl) (.cons d2 (.cons d3 .nil))))))) b
theorem L19_3 (w : Bool) (l : List (El sE)) (k : Int) (f : Int) (x11 : Int) (x7 : Int) (x12 : Int)  (d0 : (ilt x12 x11) = true) (d1 : (ieq k 0) = true) (d2 : (ilt f 0) = false) (d3 : (ieq ((((getR sE l (idxN 0 x12)).2).2).1) f) = false) (s0 : inB x12 (lenR sE l)) (s1 : ltN (idxN 0 x12) (lenR sE l)) {e : AExit} {tm2 : Tm} {h2 : List AObj} (b : ARun Tryd.prog 1 (.loop (lp Tryd.f19 0)) (L19S w l k f  (x11) (x7) (iadd .i64 x12 1)) (L19H w l k f  (x11) (x7) (iadd .i64 x12 1)) e tm2 h2) : ARun Tryd.prog 1 (.loop (lp Tryd.f19 0)) (L19S w l k f  x11 x7 x12) (L19H w l k f  x11 x7 x12) e tm2 h2 :=
  .round [Orc.br true, Orc.br true, Orc.br true, Orc.br false, Orc.br false] [1, 2, 6, 7, 10, 11, 12] [0] [isB (ilt x12 x11) true, inB x12 (lenR sE l), ltN (idxN 0 x12) (lenR sE l), isB (ieq k 0) true, isB true true, isB (ilt f 0) false, isB (ieq ((((getR sE l (idxN 0 x12)).2).2).1) f) false] (by kernel_rfl) (.cons d0 (.cons (s0) (.cons (s1) (.cons d1 (.cons (by show _ = _; kernel_rfl) (.cons d2 (.cons d3 .nil))))))) b
theorem L19_4 (w : Bool) (l : List (El sE)) (k : Int) (f : Int) (x11 : Int) (x7 : Int) (x12 : Int)  (d0 : (ilt x12 x11) = true) (d1 : (ieq k 0) = false) (d2 : (ieq (((getR sE l (idxN 0 x12)).2).1) k) = true) (d3 : (ilt f 0) = true) (s0 : inB x12 (lenR sE l)) (s1 : ltN (idxN 0 x12) (lenR sE l)) {e : AExit} {tm2 : Tm} {h2 : List AObj} (b : ARun Tryd.prog 1 (.loop (lp Tryd.f19 0)) (L19S w l k f  (x11) (iadd .i64 x7 1) (iadd .i64 x12 1)) (L19H w l k f  (x11) (iadd .i64 x7 1) (iadd .i64 x12 1)) e tm2 h2) : ARun Tryd.prog 1 (.loop (lp Tryd.f19 0)) (L19S w l k f  x11 x7 x12) (L19H w l k f  x11 x7 x12) e tm2 h2 :=
  .round [Orc.br true, Orc.br false, Orc.br true, Orc.br true, Orc.br true] [1, 2, 6, 7, 10, 11, 12] [0] [isB (ilt x12 x11) true, inB x12 (lenR sE l), ltN (idxN 0 x12) (lenR sE l), isB (ieq k 0) false, isB (ieq (((getR sE l (idxN 0 x12)).2).1) k) true, isB (ilt f 0) true, isB true true] (by kernel_rfl) (.cons d0 (.cons (s0) (.cons (s1) (.cons d1 (.cons d2 (.cons d3 (.cons (by show _ = _; kernel_rfl) .nil))))))) b
theorem L19_5 (w : Bool) (l : List (El sE)) (k : Int) (f : Int) (x11 : Int) (x7 : Int) (x12 : Int)  (d0 : (ilt x12 x11) = true) (d1 : (ieq k 0) = false) (d2 : (ieq (((getR sE l (idxN 0 x12)).2).1) k) = true) (d3 : (ilt f 0) = false) (d4 : (ieq ((((getR sE l (idxN 0 x12)).2).2).1) f) = true) (s0 : inB x12 (lenR sE l)) (s1 : ltN (idxN 0 x12) (lenR sE l)) {e : AExit} {tm2 : Tm} {h2 : List AObj} (b : ARun Tryd.prog 1 (.loop (lp Tryd.f19 0)) (L19S w l k f  (x11) (iadd .i64 x7 1) (iadd .i64 x12 1)) (L19H w l k f  (x11) (iadd .i64 x7 1) (iadd .i64 x12 1)) e tm2 h2) : ARun Tryd.prog 1 (.loop (lp Tryd.f19 0)) (L19S w l k f  x11 x7 x12) (L19H w l k f  x11 x7 x12) e tm2 h2 :=
  .round [Orc.br true, Orc.br false, Orc.br true, Orc.br false, Orc.br true] [1, 2, 6, 7, 10, 11, 12] [0] [isB (ilt x12 x11) true, inB x12 (lenR sE l), ltN (idxN 0 x12) (lenR sE l), isB (ieq k 0) false, isB (ieq (((getR sE l (idxN 0 x12)).2).1) k) true, isB (ilt f 0) false, isB (ieq ((((getR sE l (idxN 0 x12)).2).2).1) f) true] (by kernel_rfl) (.cons d0 (.cons (s0) (.cons (s1) (.cons d1 (.cons d2 (.cons d3 (.cons d4 .nil))))))) b
theorem L19_6 (w : Bool) (l : List (El sE)) (k : Int) (f : Int) (x11 : Int) (x7 : Int) (x12 : Int)  (d0 : (ilt x12 x11) = true) (d1 : (ieq k 0) = false) (d2 : (ieq (((getR sE l (idxN 0 x12)).2).1) k) = true) (d3 : (ilt f 0) = false) (d4 : (ieq ((((getR sE l (idxN 0 x12)).2).2).1) f) = false) (s0 : inB x12 (lenR sE l)) (s1 : ltN (idxN 0 x12) (lenR sE l)) {e : AExit} {tm2 : Tm} {h2 : List AObj} (b : ARun Tryd.prog 1 (.loop (lp Tryd.f19 0)) (L19S w l k f  (x11) (x7) (iadd .i64 x12 1)) (L19H w l k f  (x11) (x7) (iadd .i64 x12 1)) e tm2 h2) : ARun Tryd.prog 1 (.loop (lp Tryd.f19 0)) (L19S w l k f  x11 x7 x12) (L19H w l k f  x11 x7 x12) e tm2 h2 :=
  .round [Orc.br true, Orc.br false, Orc.br true, Orc.br false, Orc.br false] [1, 2, 6, 7, 10, 11, 12] [0] [isB (ilt x12 x11) true, inB x12 (lenR sE l), ltN (idxN 0 x12) (lenR sE l), isB (ieq k 0) false, isB (ieq (((getR sE l (idxN 0 x12)).2).1) k) true, isB (ilt f 0) false, isB (ieq ((((getR sE l (idxN 0 x12)).2).2).1) f) false] (by kernel_rfl) (.cons d0 (.cons (s0) (.cons (s1) (.cons d1 (.cons d2 (.cons d3 (.cons d4 .nil))))))) b
theorem L19_7 (w : Bool) (l : List (El sE)) (k : Int) (f : Int) (x11 : Int) (x7 : Int) (x12 : Int)  (d0 : (ilt x12 x11) = true) (d1 : (ieq k 0) = false) (d2 : (ieq (((getR sE l (idxN 0 x12)).2).1) k) = false) (s0 : inB x12 (lenR sE l)) (s1 : ltN (idxN 0 x12) (lenR sE l)) {e : AExit} {tm2 : Tm} {h2 : List AObj} (b : ARun Tryd.prog 1 (.loop (lp Tryd.f19 0)) (L19S w l k f  (x11) (x7) (iadd .i64 x12 1)) (L19H w l k f  (x11) (x7) (iadd .i64 x12 1)) e tm2 h2) : ARun Tryd.prog 1 (.loop (lp Tryd.f19 0)) (L19S w l k f  x11 x7 x12) (L19H w l k f  x11 x7 x12) e tm2 h2 :=
  .round [Orc.br true, Orc.br false, Orc.br false, Orc.br false] [1, 2, 6, 7, 10, 11, 12] [0] [isB (ilt x12 x11) true, inB x12 (lenR sE l), ltN (idxN 0 x12) (lenR sE l), isB (ieq k 0) false, isB (ieq (((getR sE l (idxN 0 x12)).2).1) k) false, isB false false] (by kernel_rfl) (.cons d0 (.cons (s0) (.cons (s1) (.cons d1 (.cons d2 (.cons (by show _ = _; kernel_rfl) .nil)))))) b
theorem L19_8 (w : Bool) (l : List (El sE)) (k : Int) (f : Int) (x11 : Int) (x7 : Int) (x12 : Int)  (d0 : (ilt x12 x11) = false) : ARun Tryd.prog 1 (.loop (lp Tryd.f19 0)) (L19S w l k f  x11 x7 x12) (L19H w l k f  x11 x7 x12) (AExit.exit 0) (L19T w l k f  (x7)) (L19U w l k f  (x7)) :=
  .last [Orc.br false] [6, 7] [0] [isB (ilt x12 x11) false] (by kernel_rfl) (.cons d0 .nil)
def L19B (w : Bool) (l : List (El sE)) (k : Int) (f : Int) (x11 : Int) (x7 : Int) (x12 : Int) : Option (((Int) × (Int) × (Int)) ⊕ ((Int))) := (bif ilt x12 x11 then (bif ieq k 0 then (bif ilt f 0 then bif decide (inB x12 (lenR sE l)) then bif decide (ltN (idxN 0 x12) (lenR sE l)) then some (.inl (x11, iadd .i64 x7 1, iadd .i64 x12 1)) else none else none else (bif ieq ((((getR sE l (idxN 0 x12)).2).2).1) f then bif decide (inB x12 (lenR sE l)) then bif decide (ltN (idxN 0 x12) (lenR sE l)) then some (.inl (x11, iadd .i64 x7 1, iadd .i64 x12 1)) else none else none else bif decide (inB x12 (lenR sE l)) then bif decide (ltN (idxN 0 x12) (lenR sE l)) then some (.inl (x11, x7, iadd .i64 x12 1)) else none else none)) else (bif ieq (((getR sE l (idxN 0 x12)).2).1) k then (bif ilt f 0 then bif decide (inB x12 (lenR sE l)) then bif decide (ltN (idxN 0 x12) (lenR sE l)) then some (.inl (x11, iadd .i64 x7 1, iadd .i64 x12 1)) else none else none else (bif ieq ((((getR sE l (idxN 0 x12)).2).2).1) f then bif decide (inB x12 (lenR sE l)) then bif decide (ltN (idxN 0 x12) (lenR sE l)) then some (.inl (x11, iadd .i64 x7 1, iadd .i64 x12 1)) else none else none else bif decide (inB x12 (lenR sE l)) then bif decide (ltN (idxN 0 x12) (lenR sE l)) then some (.inl (x11, x7, iadd .i64 x12 1)) else none else none)) else bif decide (inB x12 (lenR sE l)) then bif decide (ltN (idxN 0 x12) (lenR sE l)) then some (.inl (x11, x7, iadd .i64 x12 1)) else none else none)) else some (.inr (x7)))
def L19L (w : Bool) (l : List (El sE)) (k : Int) (f : Int) : Nat → Int → Int → Int → Option ((Int))
  | 0, _, _, _ => none
  | fuel + 1, x11, x7, x12 => match L19B w l k f  x11 x7 x12 with
    | none => none
    | some (.inl s) => L19L w l k f fuel s.1 s.2.1 s.2.2
    | some (.inr o) => some o
def L19K (w : Bool) (l : List (El sE)) (k : Int) (f : Int) (fuel : Nat) : Option (((Int) × (Int) × (Int)) ⊕ ((Int))) → Option ((Int))
  | none => none
  | some (.inl s) => L19L w l k f fuel s.1 s.2.1 s.2.2
  | some (.inr o) => some o
theorem L19LK (w : Bool) (l : List (El sE)) (k : Int) (f : Int) (fuel : Nat) (x11 : Int) (x7 : Int) (x12 : Int) : L19L w l k f (fuel + 1)  x11 x7 x12 = L19K w l k f fuel (L19B w l k f  x11 x7 x12) := by
  rw [L19L]; cases L19B w l k f  x11 x7 x12 with
  | none => rfl
  | some v => cases v <;> rfl
theorem L19P (w : Bool) (l : List (El sE)) (k : Int) (f : Int) (fuel : Nat) (ih : ∀ (x11 : Int) (x7 : Int) (x12 : Int) (o0 : Int) (_ : L19L w l k f fuel  x11 x7 x12 = some (o0)), ARun Tryd.prog 1 (.loop (lp Tryd.f19 0)) (L19S w l k f  x11 x7 x12) (L19H w l k f  x11 x7 x12) (AExit.exit 0) (L19T w l k f  o0) (L19U w l k f  o0)) (x11 : Int) (x7 : Int) (x12 : Int) (o0 : Int) (h : L19K w l k f fuel (L19B w l k f  x11 x7 x12) = some (o0)) : ARun Tryd.prog 1 (.loop (lp Tryd.f19 0)) (L19S w l k f  x11 x7 x12) (L19H w l k f  x11 x7 x12) (AExit.exit 0) (L19T w l k f  o0) (L19U w l k f  o0) := by
  unfold L19B at h
  exact (splitK h (fun d0 h => (splitK h (fun d1 h => (splitK h (fun d2 h => (chkK rfl h (fun s0 h => chkK rfl h (fun s1 h => L19_1 w l k f  x11 x7 x12 d0 d1 d2 s0 s1 (ih (x11) (iadd .i64 x7 1) (iadd .i64 x12 1) o0 h))))) (fun d2 h => (splitK h (fun d3 h => (chkK rfl h (fun s0 h => chkK rfl h (fun s1 h => L19_2 w l k f  x11 x7 x12 d0 d1 d2 d3 s0 s1 (ih (x11) (iadd .i64 x7 1) (iadd .i64 x12 1) o0 h))))) (fun d3 h => (chkK rfl h (fun s0 h => chkK rfl h (fun s1 h => L19_3 w l k f  x11 x7 x12 d0 d1 d2 d3 s0 s1 (ih (x11) (x7) (iadd .i64 x12 1) o0 h))))))))) (fun d1 h => (splitK h (fun d2 h => (splitK h (fun d3 h => (chkK rfl h (fun s0 h => chkK rfl h (fun s1 h => L19_4 w l k f  x11 x7 x12 d0 d1 d2 d3 s0 s1 (ih (x11) (iadd .i64 x7 1) (iadd .i64 x12 1) o0 h))))) (fun d3 h => (splitK h (fun d4 h => (chkK rfl h (fun s0 h => chkK rfl h (fun s1 h => L19_5 w l k f  x11 x7 x12 d0 d1 d2 d3 d4 s0 s1 (ih (x11) (iadd .i64 x7 1) (iadd .i64 x12 1) o0 h))))) (fun d4 h => (chkK rfl h (fun s0 h => chkK rfl h (fun s1 h => L19_6 w l k f  x11 x7 x12 d0 d1 d2 d3 d4 s0 s1 (ih (x11) (x7) (iadd .i64 x12 1) o0 h))))))))) (fun d2 h => (chkK rfl h (fun s0 h => chkK rfl h (fun s1 h => L19_7 w l k f  x11 x7 x12 d0 d1 d2 s0 s1 (ih (x11) (x7) (iadd .i64 x12 1) o0 h))))))))) (fun d0 h => ((by cases h; exact L19_8 w l k f  x11 x7 x12 d0))))
theorem L19 (w : Bool) (l : List (El sE)) (k : Int) (f : Int) : ∀ (fuel : Nat) (x11 : Int) (x7 : Int) (x12 : Int) (o0 : Int) (_ : L19L w l k f  fuel  x11 x7 x12 = some (o0)), ARun Tryd.prog 1 (.loop (lp Tryd.f19 0)) (L19S w l k f  x11 x7 x12) (L19H w l k f  x11 x7 x12) (AExit.exit 0) (L19T w l k f  o0) (L19U w l k f  o0)
  | 0, _, _, _, _, h => by cases h
  | fuel + 1, x11, x7, x12, o0, h => L19P w l k f fuel (L19 w l k f fuel)  x11 x7 x12  o0 (by rw [L19LK] at h; exact h)
theorem f19_1 (w : Bool) (l : List (El sE)) (k : Int) (f : Int) (L19_0_fuel : Nat) (L19_0_o0 : Int)  (L19_0_h0 : (L19L w l k f L19_0_fuel (nlen (lenR sE l)) 0 0) = (some L19_0_o0)) : ACalls Tryd.prog 19 [AV.sw 0 6, AV.v (.int .i64 k), AV.v (.int .i64 f)] [AObj.rows w sE l] (AV.v (.int .i64 L19_0_o0)) [] [] :=
  ACalls.nb (res := AV.v (.int .i64 L19_0_o0)) (.of_out [Orc.loop [1, 2, 6, 7, 10, 11, 12] [0] (AExit.exit 0) (tg [(6, AV.v (.int .i64 0)), (0, AV.v (.int .i64 L19_0_o0))] 30) [AObj.rows w sE l]] [0] [_] Tryd.func19 (by kernel_rfl) (by kernel_rfl) (.cons (L19 _ _ _ _ _ _ _ _ _ (L19_0_h0)) .nil))
theorem f19 (w : Bool) (l : List (El sE)) (k : Int) (f : Int) (L19_0_fuel : Nat) (L19_0_o0 : Int) (L19_0_h0 : (L19L w l k f L19_0_fuel (nlen (lenR sE l)) 0 0) = (some L19_0_o0)) : ACalls Tryd.prog 19 [AV.sw 0 6, AV.v (.int .i64 k), AV.v (.int .i64 f)] [AObj.rows w sE l] (AV.v (.int .i64 L19_0_o0)) [] [] := (f19_1 w l k f L19_0_fuel L19_0_o0 L19_0_h0)
theorem f61_1 (x : Int)  : ACalls Tryd.prog 61 [AV.v (.int .i64 x)] [] (AV.v (Value.bool (ine x x))) [] [] :=
  ACalls.nb (res := AV.v (Value.bool (ine x x))) (.of_out [] [] [] Tryd.func61 (by kernel_rfl) (by kernel_rfl) .nil)
theorem f61 (x : Int) : ACalls Tryd.prog 61 [AV.v (.int .i64 x)] [] (AV.v (Value.bool (ine x x))) [] [] := (f61_1 x)
def f45r0 (x : Int) (y : Int) : Int := bif (ilt x y) then (-1) else (bif (ilt y x) then 1 else 0)
theorem f45_1 (x : Int) (y : Int)  (d0 : (ilt x y) = true) : ACalls Tryd.prog 45 [AV.v (.int .i64 x), AV.v (.int .i64 y)] [] (AV.v (.int .i64 (-1))) [] [] :=
  ACalls.nb (res := AV.v (.int .i64 (-1))) (.of_out [Orc.call [] (AV.v (Value.bool (ine x x))) [] [], Orc.call [] (AV.v (Value.bool (ine y y))) [] [], Orc.br false, Orc.br false, Orc.br true] [] [ACalls Tryd.prog 61 [AV.v (.int .i64 x)] [] (AV.v (Value.bool (ine x x))) [] [], ACalls Tryd.prog 61 [AV.v (.int .i64 y)] [] (AV.v (Value.bool (ine y y))) [] [], isB (ine x x) false, isB (ine y y) false, isB (ilt x y) true] Tryd.func45 (by kernel_rfl) (by kernel_rfl) (.cons (by apply f61) (.cons (by apply f61) (.cons (rf_ine _) (.cons (rf_ine _) (.cons d0 .nil))))))
theorem f45_2 (x : Int) (y : Int)  (d0 : (ilt x y) = false) (d1 : (ilt y x) = true) : ACalls Tryd.prog 45 [AV.v (.int .i64 x), AV.v (.int .i64 y)] [] (AV.v (.int .i64 1)) [] [] :=
  ACalls.nb (res := AV.v (.int .i64 1)) (.of_out [Orc.call [] (AV.v (Value.bool (ine x x))) [] [], Orc.call [] (AV.v (Value.bool (ine y y))) [] [], Orc.br false, Orc.br false, Orc.br false, Orc.br true] [] [ACalls Tryd.prog 61 [AV.v (.int .i64 x)] [] (AV.v (Value.bool (ine x x))) [] [], ACalls Tryd.prog 61 [AV.v (.int .i64 y)] [] (AV.v (Value.bool (ine y y))) [] [], isB (ine x x) false, isB (ine y y) false, isB (ilt x y) false, isB (ilt y x) true] Tryd.func45 (by kernel_rfl) (by kernel_rfl) (.cons (by apply f61) (.cons (by apply f61) (.cons (rf_ine _) (.cons (rf_ine _) (.cons d0 (.cons d1 .nil)))))))
theorem f45_3 (x : Int) (y : Int)  (d0 : (ilt x y) = false) (d1 : (ilt y x) = false) : ACalls Tryd.prog 45 [AV.v (.int .i64 x), AV.v (.int .i64 y)] [] (AV.v (.int .i64 0)) [] [] :=
  ACalls.nb (res := AV.v (.int .i64 0)) (.of_out [Orc.call [] (AV.v (Value.bool (ine x x))) [] [], Orc.call [] (AV.v (Value.bool (ine y y))) [] [], Orc.br false, Orc.br false, Orc.br false, Orc.br false] [] [ACalls Tryd.prog 61 [AV.v (.int .i64 x)] [] (AV.v (Value.bool (ine x x))) [] [], ACalls Tryd.prog 61 [AV.v (.int .i64 y)] [] (AV.v (Value.bool (ine y y))) [] [], isB (ine x x) false, isB (ine y y) false, isB (ilt x y) false, isB (ilt y x) false] Tryd.func45 (by kernel_rfl) (by kernel_rfl) (.cons (by apply f61) (.cons (by apply f61) (.cons (rf_ine _) (.cons (rf_ine _) (.cons d0 (.cons d1 .nil)))))))
theorem f45 (x : Int) (y : Int) : ACalls Tryd.prog 45 [AV.v (.int .i64 x), AV.v (.int .i64 y)] [] (AV.v (.int .i64 (f45r0 x y))) [] [] := by
  have h := (ACalls.cond (ilt x y) (fun d0 => (f45_1 x y d0)) (fun d0 => (ACalls.cond (ilt y x) (fun d1 => (f45_2 x y d0 d1)) (fun d1 => (f45_3 x y d0 d1)))))
  simp only [c_int, c_bool, c_str, c_agg, c_tup, c_fn, c_ifc, c_sl, c_pe, c_ptr, c_rows, c_siter, c_consA, c_consU, c_consO, c_cells, c_ints, c_bools, c_strs, c_same] at h
  exact h
theorem f44_1 (a : Int) (b : Int) (c : Int) (d : Int) (e : Int) (f : Int) (g : Int) (h : Int) (i : Int) (j : Int) (k : Int) (l : Int)  : ACalls Tryd.prog 44 [AV.agg [AV.v (.int .i64 a), AV.v (.int .i64 b), AV.v (.int .i64 c), AV.v (.int .i64 d), AV.v (.int .i64 e), AV.v (.int .i64 f)], AV.agg [AV.v (.int .i64 g), AV.v (.int .i64 h), AV.v (.int .i64 i), AV.v (.int .i64 j), AV.v (.int .i64 k), AV.v (.int .i64 l)]] [] (AV.v (.int .i64 (f45r0 a g))) [] [] :=
  ACalls.nb (res := AV.v (.int .i64 (f45r0 a g))) (.of_out [Orc.call [] (AV.v (.int .i64 (f45r0 a g))) [] []] [] [ACalls Tryd.prog 45 [AV.v (.int .i64 a), AV.v (.int .i64 g)] [] (AV.v (.int .i64 (f45r0 a g))) [] []] Tryd.func44 (by kernel_rfl) (by kernel_rfl) (.cons (by apply f45) .nil))
theorem f44 (a : Int) (b : Int) (c : Int) (d : Int) (e : Int) (f : Int) (g : Int) (h : Int) (i : Int) (j : Int) (k : Int) (l : Int) : ACalls Tryd.prog 44 [AV.agg [AV.v (.int .i64 a), AV.v (.int .i64 b), AV.v (.int .i64 c), AV.v (.int .i64 d), AV.v (.int .i64 e), AV.v (.int .i64 f)], AV.agg [AV.v (.int .i64 g), AV.v (.int .i64 h), AV.v (.int .i64 i), AV.v (.int .i64 j), AV.v (.int .i64 k), AV.v (.int .i64 l)]] [] (AV.v (.int .i64 (f45r0 a g))) [] [] := (f44_1 a b c d e f g h i j k l)
def L43S (w : Bool) (l : List (El sE)) (x5 : Int) : Tm := (tg [(0, AV.sw 0 6), (0, AV.fn (Fn.func 44) []), (2, AV.v (Value.bool false)), (0, AV.v (.int .i64 x5))] 19)
def L43H (w : Bool) (l : List (El sE)) (x5 : Int) : List AObj := [AObj.rows w sE l]
def L43T0 (w : Bool) (l : List (El sE)) : Tm := (tg [(4, AV.v (Value.bool false))] 20)
def L43U0 (w : Bool) (l : List (El sE)) : List AObj := [AObj.rows w sE l]
def L43T1 (w : Bool) (l : List (El sE)) : Tm := (tg [(4, AV.v (Value.bool false))] 20)
def L43U1 (w : Bool) (l : List (El sE)) : List AObj := [AObj.rows w sE l]
theorem L43_1 (w : Bool) (l : List (El sE)) (x5 : Int)  (d0 : (ilt 0 x5) = true) (d1 : (ilt (f45r0 ((getR sE l (idxN 0 x5)).1) ((getR sE l (idxN 0 (isub .i64 x5 1))).1)) 0) = true) (s0 : inB x5 (lenR sE l)) (s1 : ltN (idxN 0 x5) (lenR sE l)) (s2 : inB (isub .i64 x5 1) (lenR sE l)) (s3 : ltN (idxN 0 (isub .i64 x5 1)) (lenR sE l)) : ARun Tryd.prog 1 (.loop (lp Tryd.f43 0)) (L43S w l  x5) (L43H w l  x5) (AExit.ret) (L43T0 w l ) (L43U0 w l ) :=
  .lastRet [Orc.br true, Orc.call [] (AV.v (.int .i64 (f45r0 ((getR sE l (idxN 0 x5)).1) ((getR sE l (idxN 0 (isub .i64 x5 1))).1)))) [] [], Orc.br true] [4] [0] [isB (ilt 0 x5) true, Mixed Tryd.prog, inB x5 (lenR sE l), ltN (idxN 0 x5) (lenR sE l), inB (isub .i64 x5 1) (lenR sE l), ltN (idxN 0 (isub .i64 x5 1)) (lenR sE l), ACalls Tryd.prog 44 [AV.agg [AV.v (.int .i64 ((getR sE l (idxN 0 x5)).1)), AV.v (.int .i64 (((getR sE l (idxN 0 x5)).2).1)), AV.v (.int .i64 ((((getR sE l (idxN 0 x5)).2).2).1)), AV.v (.int .i64 (((((getR sE l (idxN 0 x5)).2).2).2).1)), AV.v (.int .i64 ((((((getR sE l (idxN 0 x5)).2).2).2).2).1)), AV.v (.int .i64 ((((((getR sE l (idxN 0 x5)).2).2).2).2).2))], AV.agg [AV.v (.int .i64 ((getR sE l (idxN 0 (isub .i64 x5 1))).1)), AV.v (.int .i64 (((getR sE l (idxN 0 (isub .i64 x5 1))).2).1)), AV.v (.int .i64 ((((getR sE l (idxN 0 (isub .i64 x5 1))).2).2).1)), AV.v (.int .i64 (((((getR sE l (idxN 0 (isub .i64 x5 1))).2).2).2).1)), AV.v (.int .i64 ((((((getR sE l (idxN 0 (isub .i64 x5 1))).2).2).2).2).1)), AV.v (.int .i64 ((((((getR sE l (idxN 0 (isub .i64 x5 1))).2).2).2).2).2))]] [] (AV.v (.int .i64 (f45r0 ((getR sE l (idxN 0 x5)).1) ((getR sE l (idxN 0 (isub .i64 x5 1))).1)))) [] [], isB (ilt (f45r0 ((getR sE l (idxN 0 x5)).1) ((getR sE l (idxN 0 (isub .i64 x5 1))).1)) 0) true] (by kernel_rfl) (.cons d0 (.cons (by show _ = _; kernel_rfl) (.cons (s0) (.cons (s1) (.cons (s2) (.cons (s3) (.cons (by apply f44) (.cons d1 .nil))))))))
theorem L43_2 (w : Bool) (l : List (El sE)) (x5 : Int)  (d0 : (ilt 0 x5) = true) (d1 : (ilt (f45r0 ((getR sE l (idxN 0 x5)).1) ((getR sE l (idxN 0 (isub .i64 x5 1))).1)) 0) = false) (s0 : inB x5 (lenR sE l)) (s1 : ltN (idxN 0 x5) (lenR sE l)) (s2 : inB (isub .i64 x5 1) (lenR sE l)) (s3 : ltN (idxN 0 (isub .i64 x5 1)) (lenR sE l)) {e : AExit} {tm2 : Tm} {h2 : List AObj} (b : ARun Tryd.prog 1 (.loop (lp Tryd.f43 0)) (L43S w l  (isub .i64 x5 1)) (L43H w l  (isub .i64 x5 1)) e tm2 h2) : ARun Tryd.prog 1 (.loop (lp Tryd.f43 0)) (L43S w l  x5) (L43H w l  x5) e tm2 h2 :=
  .round [Orc.br true, Orc.call [] (AV.v (.int .i64 (f45r0 ((getR sE l (idxN 0 x5)).1) ((getR sE l (idxN 0 (isub .i64 x5 1))).1)))) [] [], Orc.br false] [0, 1, 4, 5] [0] [isB (ilt 0 x5) true, Mixed Tryd.prog, inB x5 (lenR sE l), ltN (idxN 0 x5) (lenR sE l), inB (isub .i64 x5 1) (lenR sE l), ltN (idxN 0 (isub .i64 x5 1)) (lenR sE l), ACalls Tryd.prog 44 [AV.agg [AV.v (.int .i64 ((getR sE l (idxN 0 x5)).1)), AV.v (.int .i64 (((getR sE l (idxN 0 x5)).2).1)), AV.v (.int .i64 ((((getR sE l (idxN 0 x5)).2).2).1)), AV.v (.int .i64 (((((getR sE l (idxN 0 x5)).2).2).2).1)), AV.v (.int .i64 ((((((getR sE l (idxN 0 x5)).2).2).2).2).1)), AV.v (.int .i64 ((((((getR sE l (idxN 0 x5)).2).2).2).2).2))], AV.agg [AV.v (.int .i64 ((getR sE l (idxN 0 (isub .i64 x5 1))).1)), AV.v (.int .i64 (((getR sE l (idxN 0 (isub .i64 x5 1))).2).1)), AV.v (.int .i64 ((((getR sE l (idxN 0 (isub .i64 x5 1))).2).2).1)), AV.v (.int .i64 (((((getR sE l (idxN 0 (isub .i64 x5 1))).2).2).2).1)), AV.v (.int .i64 ((((((getR sE l (idxN 0 (isub .i64 x5 1))).2).2).2).2).1)), AV.v (.int .i64 ((((((getR sE l (idxN 0 (isub .i64 x5 1))).2).2).2).2).2))]] [] (AV.v (.int .i64 (f45r0 ((getR sE l (idxN 0 x5)).1) ((getR sE l (idxN 0 (isub .i64 x5 1))).1)))) [] [], isB (ilt (f45r0 ((getR sE l (idxN 0 x5)).1) ((getR sE l (idxN 0 (isub .i64 x5 1))).1)) 0) false] (by kernel_rfl) (.cons d0 (.cons (by show _ = _; kernel_rfl) (.cons (s0) (.cons (s1) (.cons (s2) (.cons (s3) (.cons (by apply f44) (.cons d1 .nil)))))))) b
theorem L43_3 (w : Bool) (l : List (El sE)) (x5 : Int)  (d0 : (ilt 0 x5) = false) : ARun Tryd.prog 1 (.loop (lp Tryd.f43 0)) (L43S w l  x5) (L43H w l  x5) (AExit.exit 0) (L43T1 w l ) (L43U1 w l ) :=
  .last [Orc.br false] [4] [0] [isB (ilt 0 x5) false] (by kernel_rfl) (.cons d0 .nil)
def L43B (w : Bool) (l : List (El sE)) (x5 : Int) : Option (((Int)) ⊕ (Nat)) := (bif ilt 0 x5 then (bif ilt (f45r0 ((getR sE l (idxN 0 x5)).1) ((getR sE l (idxN 0 (isub .i64 x5 1))).1)) 0 then bif decide (inB x5 (lenR sE l)) then bif decide (ltN (idxN 0 x5) (lenR sE l)) then bif decide (inB (isub .i64 x5 1) (lenR sE l)) then bif decide (ltN (idxN 0 (isub .i64 x5 1)) (lenR sE l)) then some (.inr (0)) else none else none else none else none else bif decide (inB x5 (lenR sE l)) then bif decide (ltN (idxN 0 x5) (lenR sE l)) then bif decide (inB (isub .i64 x5 1) (lenR sE l)) then bif decide (ltN (idxN 0 (isub .i64 x5 1)) (lenR sE l)) then some (.inl (isub .i64 x5 1)) else none else none else none else none) else some (.inr (1)))
def L43L (w : Bool) (l : List (El sE)) : Nat → Int → Option (Nat)
  | 0, _ => none
  | fuel + 1, x5 => match L43B w l  x5 with
    | none => none
    | some (.inl s) => L43L w l fuel s
    | some (.inr o) => some o
def L43K (w : Bool) (l : List (El sE)) (fuel : Nat) : Option (((Int)) ⊕ (Nat)) → Option (Nat)
  | none => none
  | some (.inl s) => L43L w l fuel s
  | some (.inr o) => some o
theorem L43LK (w : Bool) (l : List (El sE)) (fuel : Nat) (x5 : Int) : L43L w l (fuel + 1)  x5 = L43K w l fuel (L43B w l  x5) := by
  rw [L43L]; cases L43B w l  x5 with
  | none => rfl
  | some v => cases v <;> rfl
theorem L43P0 (w : Bool) (l : List (El sE)) (fuel : Nat) (ih : ∀ (x5 : Int) (_ : L43L w l fuel  x5 = some (0)), ARun Tryd.prog 1 (.loop (lp Tryd.f43 0)) (L43S w l  x5) (L43H w l  x5) (AExit.ret) (L43T0 w l ) (L43U0 w l )) (x5 : Int) (h : L43K w l fuel (L43B w l  x5) = some (0)) : ARun Tryd.prog 1 (.loop (lp Tryd.f43 0)) (L43S w l  x5) (L43H w l  x5) (AExit.ret) (L43T0 w l ) (L43U0 w l ) := by
  unfold L43B at h
  exact (splitK h (fun d0 h => (splitK h (fun d1 h => (chkK rfl h (fun s0 h => chkK rfl h (fun s1 h => chkK rfl h (fun s2 h => chkK rfl h (fun s3 h => (by cases h; exact L43_1 w l  x5 d0 d1 s0 s1 s2 s3))))))) (fun d1 h => (chkK rfl h (fun s0 h => chkK rfl h (fun s1 h => chkK rfl h (fun s2 h => chkK rfl h (fun s3 h => L43_2 w l  x5 d0 d1 s0 s1 s2 s3 (ih (isub .i64 x5 1)  h))))))))) (fun d0 h => ((by cases h))))
theorem L430 (w : Bool) (l : List (El sE)) : ∀ (fuel : Nat) (x5 : Int) (_ : L43L w l  fuel  x5 = some (0)), ARun Tryd.prog 1 (.loop (lp Tryd.f43 0)) (L43S w l  x5) (L43H w l  x5) (AExit.ret) (L43T0 w l ) (L43U0 w l )
  | 0, _, h => by cases h
  | fuel + 1, x5, h => L43P0 w l fuel (L430 w l fuel)  x5  (by rw [L43LK] at h; exact h)
theorem L43P1 (w : Bool) (l : List (El sE)) (fuel : Nat) (ih : ∀ (x5 : Int) (_ : L43L w l fuel  x5 = some (1)), ARun Tryd.prog 1 (.loop (lp Tryd.f43 0)) (L43S w l  x5) (L43H w l  x5) (AExit.exit 0) (L43T1 w l ) (L43U1 w l )) (x5 : Int) (h : L43K w l fuel (L43B w l  x5) = some (1)) : ARun Tryd.prog 1 (.loop (lp Tryd.f43 0)) (L43S w l  x5) (L43H w l  x5) (AExit.exit 0) (L43T1 w l ) (L43U1 w l ) := by
  unfold L43B at h
  exact (splitK h (fun d0 h => (splitK h (fun d1 h => (chkK rfl h (fun s0 h => chkK rfl h (fun s1 h => chkK rfl h (fun s2 h => chkK rfl h (fun s3 h => (by cases h))))))) (fun d1 h => (chkK rfl h (fun s0 h => chkK rfl h (fun s1 h => chkK rfl h (fun s2 h => chkK rfl h (fun s3 h => L43_2 w l  x5 d0 d1 s0 s1 s2 s3 (ih (isub .i64 x5 1)  h))))))))) (fun d0 h => ((by cases h; exact L43_3 w l  x5 d0))))
theorem L431 (w : Bool) (l : List (El sE)) : ∀ (fuel : Nat) (x5 : Int) (_ : L43L w l  fuel  x5 = some (1)), ARun Tryd.prog 1 (.loop (lp Tryd.f43 0)) (L43S w l  x5) (L43H w l  x5) (AExit.exit 0) (L43T1 w l ) (L43U1 w l )
  | 0, _, h => by cases h
  | fuel + 1, x5, h => L43P1 w l fuel (L431 w l fuel)  x5  (by rw [L43LK] at h; exact h)
theorem f43_1 (w : Bool) (l : List (El sE)) (L430_0_c : Nat) (L430_0_fuel : Nat)  (d0 : (Nat.beq L430_0_c 0) = true) (L430_0_h0 : ((Nat.beq L430_0_c 0) = true) → (L43L w l L430_0_fuel (isub .i64 (nlen (lenR sE l)) 1)) = (some 0)) : ACalls Tryd.prog 43 [AV.sw 0 6, AV.fn (Fn.func 44) []] [AObj.rows w sE l] (AV.v (Value.bool false)) [] [] :=
  ACalls.nb (res := AV.v (Value.bool false)) (.of_out [Orc.loop [0, 1, 4, 5] [0] AExit.ret (tg [(4, AV.v (Value.bool false))] 20) [AObj.rows w sE l]] [0] [_] Tryd.func43 (by kernel_rfl) (by kernel_rfl) (.cons (L430 _ _ _ _ (L430_0_h0 d0)) .nil))
theorem f43_2 (w : Bool) (l : List (El sE)) (L430_0_c : Nat) (L430_0_fuel1 : Nat)  (d0 : (Nat.beq L430_0_c 0) = false) (L430_0_h1 : ((Nat.beq L430_0_c 0) = false) → (L43L w l L430_0_fuel1 (isub .i64 (nlen (lenR sE l)) 1)) = (some 1)) : ACalls Tryd.prog 43 [AV.sw 0 6, AV.fn (Fn.func 44) []] [AObj.rows w sE l] (AV.v (Value.bool true)) [] [] :=
  ACalls.nb (res := AV.v (Value.bool true)) (.of_out [Orc.loop [0, 1, 4, 5] [0] (AExit.exit 0) (tg [(4, AV.v (Value.bool false))] 20) [AObj.rows w sE l]] [0] [_] Tryd.func43 (by kernel_rfl) (by kernel_rfl) (.cons (L431 _ _ _ _ (L430_0_h1 d0)) .nil))
theorem f43 (w : Bool) (l : List (El sE)) (L430_0_c : Nat) (L430_0_fuel : Nat) (L430_0_fuel1 : Nat) (L430_0_h0 : ((Nat.beq L430_0_c 0) = true) → (L43L w l L430_0_fuel (isub .i64 (nlen (lenR sE l)) 1)) = (some 0)) (L430_0_h1 : ((Nat.beq L430_0_c 0) = false) → (L43L w l L430_0_fuel1 (isub .i64 (nlen (lenR sE l)) 1)) = (some 1)) : ACalls Tryd.prog 43 [AV.sw 0 6, AV.fn (Fn.func 44) []] [AObj.rows w sE l] (AV.v (Value.bool (bif (Nat.beq L430_0_c 0) then false else true))) [] [] := by
  have h := (ACalls.cond (Nat.beq L430_0_c 0) (fun d0 => (f43_1 w l L430_0_c L430_0_fuel d0 L430_0_h0)) (fun d0 => (f43_2 w l L430_0_c L430_0_fuel1 d0 L430_0_h1)))
  simp only [c_int, c_bool, c_str, c_agg, c_tup, c_fn, c_ifc, c_sl, c_pe, c_ptr, c_rows, c_siter, c_consA, c_consU, c_consO, c_cells, c_ints, c_bools, c_strs, c_same] at h
  exact h
def atR (l : List (El sE)) (i : Nat) : Int := (getR sE l i).1
def srt (l : List (El sE)) : Nat → Bool
  | 0 => true
  | i + 1 => bif ilt (atR l (i + 1)) (atR l i) then false else srt l i
def srtL (l : List (El sE)) : Bool := srt l (l.length - 1)
theorem cmp_lt (x y : Int) : ilt (f45r0 x y) 0 = ilt x y := by
  unfold f45r0
  cases h : ilt x y with
  | true => rfl
  | false => cases h2 : ilt y x <;> rfl
theorem l43b (w : Bool) (l : List (El sE)) (hn : l.length ≤ 2000) : ∀ (i : Nat), i < l.length → L43L w l (i + 1 + 1) (i : Int) = some (bif srt l i then 1 else 0)
  | 0, _ => by rw [L43LK]; rfl
  | i + 1, h => by
    have e0 : ilt 0 ((i + 1 : Nat) : Int) = true := by rw [ilt_d]; exact decide_eq_true (by omega)
    have e1 : isub .i64 ((i + 1 : Nat) : Int) 1 = (i : Int) := by unfold isub; rw [w_i64_in (by omega)]; omega
    have e2 : inB ((i + 1 : Nat) : Int) (lenR sE l) := by unfold inB lenR; omega
    have e3 : ltN (idxN 0 ((i + 1 : Nat) : Int)) (lenR sE l) := by unfold ltN idxN lenR; omega
    have e4 : inB (i : Int) (lenR sE l) := by unfold inB lenR; omega
    have e5 : ltN (idxN 0 (i : Int)) (lenR sE l) := by unfold ltN idxN lenR; omega
    have a1 : idxN 0 ((i + 1 : Nat) : Int) = i + 1 := by unfold idxN; omega
    have a2 : idxN 0 (i : Int) = i := by unfold idxN; omega
    rw [L43LK]; unfold L43B
    rw [e1, cmp_lt, e0]
    simp only [decide_eq_true e2, decide_eq_true e3, decide_eq_true e4, decide_eq_true e5, cond_true]
    rw [a1, a2]
    show L43K w l (i + 1 + 1) (bif ilt (atR l (i + 1)) (atR l i) then _ else _) = _
    unfold srt
    cases hc : ilt (atR l (i + 1)) (atR l i) with
    | true => rfl
    | false => exact l43b w l hn i (by omega)
theorem g43 (w : Bool) (l : List (El sE)) (h : smR l = true) : ACalls Tryd.prog 43 [AV.sw 0 6, AV.fn (Fn.func 44) []] [AObj.rows w sE l] (AV.v (Value.bool (srtL l))) [] [] := by
  have hn : l.length ≤ 2000 := of_decide_eq_true h
  have key : L43L w l (l.length + 1) (isub .i64 (nlen (lenR sE l)) 1) = some (bif srtL l then 1 else 0) := by
    cases hl : l.length with
    | zero =>
      have e0 : isub .i64 (nlen (lenR sE l)) 1 = -1 := by unfold nlen lenR; rw [hl]; rfl
      have e1 : srtL l = true := by unfold srtL; rw [hl]; rfl
      rw [e0, e1, L43LK]; rfl
    | succ n =>
      have e0 : isub .i64 (nlen (lenR sE l)) 1 = (n : Int) := by unfold nlen lenR isub; rw [hl, w_i64_in (by omega)]; omega
      have e1 : srtL l = srt l n := by unfold srtL; rw [hl]; rfl
      rw [e0, e1]
      exact l43b w l hn n (by omega)
  have := f43 w l (bif srtL l then 1 else 0) (l.length + 1) (l.length + 1) (fun e => by rw [key]; cases h : srtL l <;> rw [h] at e <;> simp at e ⊢) (fun e => by rw [key]; cases h : srtL l <;> rw [h] at e <;> simp at e ⊢)
  have e : (bif (Nat.beq (bif srtL l then 1 else 0) 0) then false else true) = srtL l := by cases srtL l <;> rfl
  rw [e] at this; exact this
theorem f20_1 (w : Bool) (l : List (El sE))  (s0 : (smR l) = true) : ACalls Tryd.prog 20 [AV.sw 0 6] [AObj.rows w sE l] (AV.v (Value.bool (srtL l))) [] [] :=
  ACalls.nb (res := AV.v (Value.bool (srtL l))) (.of_out [Orc.call [0] (AV.v (Value.bool (srtL l))) [] []] [0] [ACalls Tryd.prog 43 [AV.sw 0 6, AV.fn (Fn.func 44) []] [AObj.rows w sE l] (AV.v (Value.bool (srtL l))) [] []] Tryd.func20 (by kernel_rfl) (by kernel_rfl) (.cons (by apply g43 <;> (first | exact (s0))) .nil))
theorem f20 (w : Bool) (l : List (El sE)) (s0 : (smR l) = true) : ACalls Tryd.prog 20 [AV.sw 0 6] [AObj.rows w sE l] (AV.v (Value.bool (srtL l))) [] [] := (f20_1 w l s0)
end Go.Proofs.YtnejcdinieaemaaDoor.Tr

set_option linter.all false
set_option maxRecDepth 100000
/- What is encoded is decoded as it was. -/
namespace Go.Proofs.YtnejcdinieaemaaDoor.Code
open Go.Abs Go.Proofs.YtnejcdinieaemaaDoor.Code
theorem numG_vb : ∀ (n : Nat) (y acc : Int) (i : Nat) (rest : List Int), y.toNat ≤ n → i ≤ 9 → 0 ≤ y → y * 128 ^ i < 18446744073709551616 → (0 < i → 0 < y) →
    numG (vb y ++ rest) i acc = (acc + y * 128 ^ i, (i : Int) + ((vb y).length : Int), (0 : Int))
  | n, y, acc, i, rest, hn, hi, h0, hy, hp => by
    by_cases hlt : y < 128
    · rw [vb_lt ⟨h0, hlt⟩, List.singleton_append, numG]
      rw [if_neg, if_neg (by omega), if_neg (by omega)]
      · simp
      · rintro ⟨rfl, h1⟩; simp at hy; omega
    · have hi8 : i ≤ 8 := by
        rcases ten hi with rfl | rfl | rfl | rfl | rfl | rfl | rfl | rfl | rfl | rfl <;> simp at * <;> omega
      have hc0 : ¬ (i = 9 ∧ 1 < y % 128 + 128) := by omega
      have hc1 : 128 ≤ y % 128 + 128 := by omega
      rw [vb_ge (by omega), List.cons_append, numG, if_neg hc0, if_pos hc1]
      match n, hn with
      | 0, hn => omega
      | n + 1, hn =>
        have e : (128 : Int) ^ (i + 1) = 128 ^ i * 128 := Int.pow_succ ..
        have hp0 : 0 ≤ (128 : Int) ^ i := Int.pow_nonneg (by omega)
        have hdm : y = 128 * (y / 128) + y % 128 := by omega
        have hq : y / 128 * 128 ^ (i + 1) + y % 128 * 128 ^ i = y * 128 ^ i := by
          rw [e, show y / 128 * (128 ^ i * 128) = (128 * (y / 128)) * 128 ^ i from by rw [Int.mul_comm (128 ^ i) 128, ← Int.mul_assoc, Int.mul_comm (y / 128) 128], ← Int.add_mul, ← hdm]
        have hle : 0 ≤ y % 128 * 128 ^ i := Int.mul_nonneg (by omega) hp0
        have ih := numG_vb n (y / 128) (acc + (y % 128 + 128) % 128 * 128 ^ i) (i + 1) rest (by omega) (by omega) (by omega) (by omega) (by omega)
        rw [ih, show (y % 128 + 128) % 128 = y % 128 by omega]
        simp only [List.length_cons, Prod.mk.injEq, and_true]
        constructor
        · omega
        · omega
theorem num0_vb {m : List Int} {a y : Int} (rest : List Int) (hu : u64B y = true) (h : m.drop a.toNat = vb y ++ rest) : num0 m a = (y, ((vb y).length : Int), (0 : Int)) := by
  rw [u64B_iff] at hu
  unfold num0; rw [h, numG_vb y.toNat y 0 0 rest (Nat.le_refl _) (by omega) hu.1 (by simpa using hu.2) (by omega)]
  simp
theorem byB_app {a c : List Int} (h1 : byB a = true) (h2 : byB c = true) : byB (a ++ c) = true := by
  rw [byB_iff] at *; intro x hx; rcases List.mem_append.1 hx with h | h
  · exact h1 x h
  · exact h2 x h
theorem vb_by : ∀ (n : Nat) (x : Int), x.toNat ≤ n → 0 ≤ x → byB (vb x) = true
  | n, x, hn, h0 => by
    by_cases h : x < 128
    · rw [vb_lt ⟨h0, h⟩, byB_iff]; intro c hc; simp at hc; omega
    · rw [vb_ge (by omega), byB_iff]
      intro c hc
      rcases List.mem_cons.1 hc with rfl | hc
      · omega
      · match n, hn with
        | 0, hn => omega
        | n + 1, hn => exact byB_iff.1 (vb_by n (x / 128) (by omega) (by omega)) c hc
end Go.Proofs.YtnejcdinieaemaaDoor.Code
namespace Go.Proofs.YtnejcdinieaemaaDoor.Tr
open Go.Abs Go.Proofs.YtnejcdinieaemaaDoor.Code Go.Proofs.YtnejcdinieaemaaDoor.Code
/-- a reader is where this stands -/
structure At (M : List Int) (s : RS) (rest : List Int) : Prop where
  ok : okS M s = true
  r0 : pR s = 0
  at_ : M.drop (pA s).toNat = rest
theorem at_u {M rest : List Int} {s : RS} {y : Int} (h : At M s (vb y ++ rest)) (hu : u64B y = true) : tV M s = y ∧ At M (iN M s) rest := by
  have hok : okC M s.a = true := h.ok
  have hr : s.r = 0 := h.r0
  have ha : M.drop s.a.toNat = vb y ++ rest := h.at_
  have hn := num0_vb rest hu ha
  have ho := (okC_iff.1 hok).1
  have hy := u64B_iff.1 hu
  have hk : upOk M s.a s.r mxU = true := by unfold upOk; rw [hn]; exact decide_eq_true ⟨hr, rfl, by show y ≤ 18446744073709551615; omega⟩
  refine ⟨?_, iN_ok h.ok, ?_, ?_⟩
  · show upV M s.a s.r mxU = y
    unfold upV; rw [hk, hn]; rfl
  · show upR M s.a s.r mxU = 0
    have hm : y ≤ mxU := by show y ≤ 18446744073709551615; omega
    unfold upR; rw [hn]; simp only [hr, ne_eq, not_true_eq_false, if_false, if_true, if_pos hm]
  · show M.drop (upA M s.a s.r mxU).toNat = rest
    unfold upA; rw [hk, hn]
    simp only [cond_true]
    rw [show (s.a + ((vb y).length : Int)).toNat = s.a.toNat + (vb y).length by omega, ← List.drop_drop, ha]
    simp
theorem at_i {M rest : List Int} {s : RS} {x : Int} (h : At M s (vb (zz x) ++ rest)) (hx : i64B x = true) : iV M s = x ∧ At M (iN M s) rest := by
  obtain ⟨h1, h2⟩ := at_u h (zz_u64 hx)
  refine ⟨?_, h2⟩
  show uz (tV M s) = x
  rw [h1]; exact uz_zz
theorem at_six {M rest : List Int} {s : RS} {e : El sE} (h : At M s (ebE e ++ rest)) (hx : okE e = true) : sixE M s = e ∧ At M (six M s) rest := by
  unfold okE at hx
  simp only [Bool.and_eq_true] at hx
  obtain ⟨⟨⟨⟨⟨x1, x2⟩, x3⟩, x4⟩, x5⟩, x6⟩ := hx
  unfold ebE at h
  simp only [List.append_assoc] at h
  obtain ⟨v1, h⟩ := at_i h x1
  obtain ⟨v2, h⟩ := at_i h x2
  obtain ⟨v3, h⟩ := at_i h x3
  obtain ⟨v4, h⟩ := at_i h x4
  obtain ⟨v5, h⟩ := at_i h x5
  obtain ⟨v6, h⟩ := at_i h x6
  refine ⟨?_, h⟩
  unfold sixE
  rw [v1, v2, v3, v4, v5, v6]
theorem at_run {M rest : List Int} : ∀ (l : List (El sE)) (s : RS) (y : List (El sE)), l.all okE = true → At M s (l.flatMap ebE ++ rest) → (run M l.length s y).2 = y ++ l ∧ At M (run M l.length s y).1 rest
  | [], s, y, _, h => ⟨by simp [run], h⟩
  | e :: l, s, y, hl, h => by
    rw [List.all_cons, Bool.and_eq_true] at hl
    rw [List.flatMap_cons, List.append_assoc] at h
    obtain ⟨v, h1⟩ := at_six h hl.1
    have ih := at_run l (six M s) (y ++ [sixE M s]) hl.2 h1
    rw [List.length_cons, run, if_pos h.r0]
    refine ⟨?_, ih.2⟩
    rw [ih.1, v]; simp
theorem eb_by {e : El sE} (h : okE e = true) : byB (ebE e) = true := by
  unfold okE at h
  simp only [Bool.and_eq_true] at h
  obtain ⟨⟨⟨⟨⟨x1, x2⟩, x3⟩, x4⟩, x5⟩, x6⟩ := h
  have q : ∀ x, i64B x = true → byB (vb (zz x)) = true := fun x hx => vb_by _ _ (Nat.le_refl _) (u64B_iff.1 (zz_u64 hx)).1
  exact byB_app (q _ x1) (byB_app (q _ x2) (byB_app (q _ x3) (byB_app (q _ x4) (byB_app (q _ x5) (q _ x6)))))
theorem fm_by : ∀ (l : List (El sE)), l.all okE = true → byB (l.flatMap ebE) = true ∧ (l.flatMap ebE).length ≤ 60 * l.length
  | [], _ => ⟨rfl, by simp⟩
  | e :: l, h => by
    rw [List.all_cons, Bool.and_eq_true] at h
    have ih := fm_by l h.2
    have := (ok_of (y := []) h.1 (by simp)).ln
    rw [List.flatMap_cons]
    exact ⟨byB_app (eb_by h.1) ih.1, by simp only [List.length_append, List.length_cons]; omega⟩
theorem okL_60 {l : List (El sE)} (h : l.all okE = true) (hn : l.length ≤ 60) : okL l = true := by
  unfold okL; rw [h, decide_eq_true (show l.length ≤ 100 by omega)]; rfl
theorem enc_by {l : List (El sE)} (h : l.all okE = true) (hn : l.length ≤ 60) : byM (encL l) = true := by
  obtain ⟨-, e2⟩ := len_u64 (n := l.length) (by omega)
  have := vb_len e2
  have f := fm_by l h
  unfold byM encL
  rw [Bool.and_eq_true, decide_eq_true_eq]
  exact ⟨by simp only [List.length_append]; omega, byB_app (vb_by _ _ (Nat.le_refl _) (by omega)) f.1⟩
theorem vb_pos (x : Int) : 1 ≤ (vb x).length := by
  unfold vb; simp
theorem eb_ge (e : El sE) : 6 ≤ (ebE e).length := by
  have := vb_pos (zz e.1); have := vb_pos (zz e.2.1); have := vb_pos (zz e.2.2.1); have := vb_pos (zz e.2.2.2.1); have := vb_pos (zz e.2.2.2.2.1); have := vb_pos (zz e.2.2.2.2.2)
  unfold ebE; simp only [List.length_append]; omega
theorem fm_ge : ∀ (l : List (El sE)), l.length ≤ (l.flatMap ebE).length
  | [] => by simp
  | e :: l => by
    have := fm_ge l; have := eb_ge e
    rw [List.flatMap_cons]; simp only [List.length_append, List.length_cons]; omega
theorem dec_enc {l : List (El sE)} (h : l.all okE = true) (hn : l.length ≤ 60) : dE (encL l) = 0 ∧ dL (encL l) = l := by
  have hb := enc_by h hn
  obtain ⟨-, e2⟩ := len_u64 (n := l.length) (by omega)
  have A0 : At (encL l) r0 (vb (l.length : Int) ++ (l.flatMap ebE ++ [])) := ⟨ok_r0 hb, rfl, by rw [List.append_nil]; rfl⟩
  obtain ⟨v, A1⟩ := at_u A0 e2
  have e : dR (encL l) = run (encL l) l.length (iN (encL l) r0) [] := by unfold dR; rw [v, Int.toNat_natCast]
  obtain ⟨v2, A2⟩ := at_run l (iN (encL l) r0) [] h A1
  rw [← e] at v2 A2
  have hz : dE (encL l) = 0 := by
    unfold dE
    have hd : ((encL l).drop (pA (dR (encL l)).1).toNat) = [] := A2.at_
    have hd := List.drop_eq_nil_iff.1 hd
    have hp : okC (encL l) (dR (encL l)).1.a = true := A2.ok
    have hp := (okC_iff.1 hp).1
    have hp : 0 ≤ pA (dR (encL l)).1 := hp.1
    have hg := fm_ge l
    have hl : l.length ≤ (encL l).length := by unfold encL; simp only [List.length_append]; omega
    rw [v, if_neg (by omega), if_neg (by rw [A2.r0]; simp), if_neg (by omega)]
  refine ⟨hz, ?_⟩
  unfold dL
  rw [if_pos hz, v2]; rfl
end Go.Proofs.YtnejcdinieaemaaDoor.Tr
