import Derived.Test.YtnejcdinieaemaaDoorAbsO
import Derived.Test.YtnejcdinieaemaaDoorTzC
set_option maxRecDepth 100000
set_option linter.all false
set_option maxHeartbeats 4000000
set_option linter.unusedSimpArgs false
set_option linter.unusedVariables false
namespace Go.Proofs.YtnejcdinieaemaaDoor.Tr
open Go.Abs Go.Proofs.YtnejcdinieaemaaDoor.Code Go.Proofs.YtnejcdinieaemaaDoor.Code
def L14S (w : Bool) (m : List Int) (ps : RS) (x17 : Int) (x18 : Int) (y2 : List (El sE)) : Tm := (tg [(2, AV.v (Value.slice none 0 0)), (0, AV.v (.int .i64 0)), (0, AV.ptr 1 0), (1, AV.sw 2 6), (10, AV.v (.int .u64 x17)), (0, AV.v (.int .u64 x18))] 35)
def L14H (w : Bool) (m : List Int) (ps : RS) (x17 : Int) (x18 : Int) (y2 : List (El sE)) : List AObj := [AObj.ints 0 w IntKind.u8 m, AObj.cells 0 true [AV.sw 3 1, AV.v (.int .i64 (pA ps)), AV.v (.int .i64 (pR ps))], AObj.rows true sE y2, AObj.ints 0 false IntKind.u8 m]
def L14T0 (w : Bool) (m : List Int) (o0 : RS) (o1 : Int) (o2 : List (El sE)) : Tm := (tg [(2, AV.v (Value.slice none 0 0)), (0, AV.v (.int .i64 (pR o0))), (0, AV.ptr 1 0), (1, AV.sw 2 6)] 47)
def L14U0 (w : Bool) (m : List Int) (o0 : RS) (o1 : Int) (o2 : List (El sE)) : List AObj := [AObj.ints 0 w IntKind.u8 m, AObj.cells 0 true [AV.sw 3 1, AV.v (.int .i64 (pA o0)), AV.v (.int .i64 o1)], AObj.rows true sE o2, AObj.ints 0 false IntKind.u8 m]
def L14T1 (w : Bool) (m : List Int) (o3 : RS) (o4 : List (El sE)) : Tm := (tg [(2, AV.v (Value.slice none 0 0)), (0, AV.v (.int .i64 0)), (0, AV.ptr 1 0), (1, AV.sw 2 6)] 47)
def L14U1 (w : Bool) (m : List Int) (o3 : RS) (o4 : List (El sE)) : List AObj := [AObj.ints 0 w IntKind.u8 m, AObj.cells 0 true [AV.sw 3 1, AV.v (.int .i64 (pA o3)), AV.v (.int .i64 (pR o3))], AObj.rows true sE o4, AObj.ints 0 false IntKind.u8 m]
theorem L14_1 (w : Bool) (m : List Int) (ps : RS) (x17 : Int) (x18 : Int) (y2 : List (El sE))  (d0 : (ilt x18 x17) = true) (d1 : (ine (pR (iN m (iN m (iN m (iN m (iN m (iN m ps))))))) 0) = true) (s0 : (okS m ps) = true) (s1 : (okS m (iN m ps)) = true) (s2 : (okS m (iN m (iN m ps))) = true) (s3 : (okS m (iN m (iN m (iN m ps)))) = true) (s4 : (okS m (iN m (iN m (iN m (iN m ps))))) = true) (s5 : (okS m (iN m (iN m (iN m (iN m (iN m ps)))))) = true) (s6 : fitN (addN (lenR sE y2) (lenR sE [(iV m ps, iV m (iN m ps), iV m (iN m (iN m ps)), iV m (iN m (iN m (iN m ps))), iV m (iN m (iN m (iN m (iN m ps)))), iV m (iN m (iN m (iN m (iN m (iN m ps))))))])) 48) : ARun Tryd.prog 1 (.loop (lp Tryd.f14 0)) (L14S w m  ps x17 x18 y2) (L14H w m  ps x17 x18 y2) (AExit.ret) (L14T0 w m  (iN m (iN m (iN m (iN m (iN m (iN m ps)))))) (pR (iN m (iN m (iN m (iN m (iN m (iN m ps))))))) (appR sE y2 [(iV m ps, iV m (iN m ps), iV m (iN m (iN m ps)), iV m (iN m (iN m (iN m ps))), iV m (iN m (iN m (iN m (iN m ps)))), iV m (iN m (iN m (iN m (iN m (iN m ps))))))])) (L14U0 w m  (iN m (iN m (iN m (iN m (iN m (iN m ps)))))) (pR (iN m (iN m (iN m (iN m (iN m (iN m ps))))))) (appR sE y2 [(iV m ps, iV m (iN m ps), iV m (iN m (iN m ps)), iV m (iN m (iN m (iN m ps))), iV m (iN m (iN m (iN m (iN m ps)))), iV m (iN m (iN m (iN m (iN m (iN m ps))))))])) :=
  .lastRet [Orc.br true, Orc.call [1, 3] (AV.v (.int .i64 (iV m ps))) [(0, rdC (iN m ps))] [], Orc.call [1, 3] (AV.v (.int .i64 (iV m (iN m ps)))) [(0, rdC (iN m (iN m ps)))] [], Orc.call [1, 3] (AV.v (.int .i64 (iV m (iN m (iN m ps))))) [(0, rdC (iN m (iN m (iN m ps))))] [], Orc.call [1, 3] (AV.v (.int .i64 (iV m (iN m (iN m (iN m ps)))))) [(0, rdC (iN m (iN m (iN m (iN m ps)))))] [], Orc.call [1, 3] (AV.v (.int .i64 (iV m (iN m (iN m (iN m (iN m ps))))))) [(0, rdC (iN m (iN m (iN m (iN m (iN m ps))))))] [], Orc.call [1, 3] (AV.v (.int .i64 (iV m (iN m (iN m (iN m (iN m (iN m ps)))))))) [(0, rdC (iN m (iN m (iN m (iN m (iN m (iN m ps)))))))] [], Orc.call [1, 3] (AV.v (.int .i64 (pR (iN m (iN m (iN m (iN m (iN m (iN m ps))))))))) [] [], Orc.br true, Orc.call [1, 3] (AV.v (.int .i64 (pR (iN m (iN m (iN m (iN m (iN m (iN m ps))))))))) [] []] [2, 3, 4, 6, 43, 49] [0, 1, 6, 3] [isB (ilt x18 x17) true, ACalls Tryd.prog 34 [AV.ptr 0 0] [rdC ps, AObj.ints 0 false IntKind.u8 m] (AV.v (.int .i64 (iV m ps))) [(0, rdC (iN m ps))] [], ACalls Tryd.prog 34 [AV.ptr 0 0] [rdC (iN m ps), AObj.ints 0 false IntKind.u8 m] (AV.v (.int .i64 (iV m (iN m ps)))) [(0, rdC (iN m (iN m ps)))] [], ACalls Tryd.prog 34 [AV.ptr 0 0] [rdC (iN m (iN m ps)), AObj.ints 0 false IntKind.u8 m] (AV.v (.int .i64 (iV m (iN m (iN m ps))))) [(0, rdC (iN m (iN m (iN m ps))))] [], ACalls Tryd.prog 34 [AV.ptr 0 0] [rdC (iN m (iN m (iN m ps))), AObj.ints 0 false IntKind.u8 m] (AV.v (.int .i64 (iV m (iN m (iN m (iN m ps)))))) [(0, rdC (iN m (iN m (iN m (iN m ps)))))] [], ACalls Tryd.prog 34 [AV.ptr 0 0] [rdC (iN m (iN m (iN m (iN m ps)))), AObj.ints 0 false IntKind.u8 m] (AV.v (.int .i64 (iV m (iN m (iN m (iN m (iN m ps))))))) [(0, rdC (iN m (iN m (iN m (iN m (iN m ps))))))] [], ACalls Tryd.prog 34 [AV.ptr 0 0] [rdC (iN m (iN m (iN m (iN m (iN m ps))))), AObj.ints 0 false IntKind.u8 m] (AV.v (.int .i64 (iV m (iN m (iN m (iN m (iN m (iN m ps)))))))) [(0, rdC (iN m (iN m (iN m (iN m (iN m (iN m ps)))))))] [], fitN (addN (lenR sE y2) (lenR sE [(iV m ps, iV m (iN m ps), iV m (iN m (iN m ps)), iV m (iN m (iN m (iN m ps))), iV m (iN m (iN m (iN m (iN m ps)))), iV m (iN m (iN m (iN m (iN m (iN m ps))))))])) 48, ACalls Tryd.prog 35 [AV.ptr 0 0] [rdC (iN m (iN m (iN m (iN m (iN m (iN m ps)))))), AObj.ints 0 false IntKind.u8 m] (AV.v (.int .i64 (pR (iN m (iN m (iN m (iN m (iN m (iN m ps))))))))) [] [], isB (ine (pR (iN m (iN m (iN m (iN m (iN m (iN m ps))))))) 0) true, ACalls Tryd.prog 35 [AV.ptr 0 0] [rdC (iN m (iN m (iN m (iN m (iN m (iN m ps)))))), AObj.ints 0 false IntKind.u8 m] (AV.v (.int .i64 (pR (iN m (iN m (iN m (iN m (iN m (iN m ps))))))))) [] []] (by kernel_rfl) (.cons d0 (.cons (by apply k34 <;> (first | exact (s0))) (.cons (by apply k34 <;> (first | exact (s1))) (.cons (by apply k34 <;> (first | exact (s2))) (.cons (by apply k34 <;> (first | exact (s3))) (.cons (by apply k34 <;> (first | exact (s4))) (.cons (by apply k34 <;> (first | exact (s5))) (.cons (s6) (.cons (by apply k35) (.cons d1 (.cons (by apply k35) .nil)))))))))))
theorem L14_2 (w : Bool) (m : List Int) (ps : RS) (x17 : Int) (x18 : Int) (y2 : List (El sE))  (d0 : (ilt x18 x17) = true) (d1 : (ine (pR (iN m (iN m (iN m (iN m (iN m (iN m ps))))))) 0) = false) (s0 : (okS m ps) = true) (s1 : (okS m (iN m ps)) = true) (s2 : (okS m (iN m (iN m ps))) = true) (s3 : (okS m (iN m (iN m (iN m ps)))) = true) (s4 : (okS m (iN m (iN m (iN m (iN m ps))))) = true) (s5 : (okS m (iN m (iN m (iN m (iN m (iN m ps)))))) = true) (s6 : fitN (addN (lenR sE y2) (lenR sE [(iV m ps, iV m (iN m ps), iV m (iN m (iN m ps)), iV m (iN m (iN m (iN m ps))), iV m (iN m (iN m (iN m (iN m ps)))), iV m (iN m (iN m (iN m (iN m (iN m ps))))))])) 48) {e : AExit} {tm2 : Tm} {h2 : List AObj} (b : ARun Tryd.prog 1 (.loop (lp Tryd.f14 0)) (L14S w m  (iN m (iN m (iN m (iN m (iN m (iN m ps)))))) (x17) (iadd .u64 x18 1) (appR sE y2 [(iV m ps, iV m (iN m ps), iV m (iN m (iN m ps)), iV m (iN m (iN m (iN m ps))), iV m (iN m (iN m (iN m (iN m ps)))), iV m (iN m (iN m (iN m (iN m (iN m ps))))))])) (L14H w m  (iN m (iN m (iN m (iN m (iN m (iN m ps)))))) (x17) (iadd .u64 x18 1) (appR sE y2 [(iV m ps, iV m (iN m ps), iV m (iN m (iN m ps)), iV m (iN m (iN m (iN m ps))), iV m (iN m (iN m (iN m (iN m ps)))), iV m (iN m (iN m (iN m (iN m (iN m ps))))))])) e tm2 h2) : ARun Tryd.prog 1 (.loop (lp Tryd.f14 0)) (L14S w m  ps x17 x18 y2) (L14H w m  ps x17 x18 y2) e tm2 h2 :=
  .round [Orc.br true, Orc.call [1, 3] (AV.v (.int .i64 (iV m ps))) [(0, rdC (iN m ps))] [], Orc.call [1, 3] (AV.v (.int .i64 (iV m (iN m ps)))) [(0, rdC (iN m (iN m ps)))] [], Orc.call [1, 3] (AV.v (.int .i64 (iV m (iN m (iN m ps))))) [(0, rdC (iN m (iN m (iN m ps))))] [], Orc.call [1, 3] (AV.v (.int .i64 (iV m (iN m (iN m (iN m ps)))))) [(0, rdC (iN m (iN m (iN m (iN m ps)))))] [], Orc.call [1, 3] (AV.v (.int .i64 (iV m (iN m (iN m (iN m (iN m ps))))))) [(0, rdC (iN m (iN m (iN m (iN m (iN m ps))))))] [], Orc.call [1, 3] (AV.v (.int .i64 (iV m (iN m (iN m (iN m (iN m (iN m ps)))))))) [(0, rdC (iN m (iN m (iN m (iN m (iN m (iN m ps)))))))] [], Orc.call [1, 3] (AV.v (.int .i64 (pR (iN m (iN m (iN m (iN m (iN m (iN m ps))))))))) [] [], Orc.br false] [2, 3, 4, 6, 17, 18] [0, 1, 6, 3] [isB (ilt x18 x17) true, ACalls Tryd.prog 34 [AV.ptr 0 0] [rdC ps, AObj.ints 0 false IntKind.u8 m] (AV.v (.int .i64 (iV m ps))) [(0, rdC (iN m ps))] [], ACalls Tryd.prog 34 [AV.ptr 0 0] [rdC (iN m ps), AObj.ints 0 false IntKind.u8 m] (AV.v (.int .i64 (iV m (iN m ps)))) [(0, rdC (iN m (iN m ps)))] [], ACalls Tryd.prog 34 [AV.ptr 0 0] [rdC (iN m (iN m ps)), AObj.ints 0 false IntKind.u8 m] (AV.v (.int .i64 (iV m (iN m (iN m ps))))) [(0, rdC (iN m (iN m (iN m ps))))] [], ACalls Tryd.prog 34 [AV.ptr 0 0] [rdC (iN m (iN m (iN m ps))), AObj.ints 0 false IntKind.u8 m] (AV.v (.int .i64 (iV m (iN m (iN m (iN m ps)))))) [(0, rdC (iN m (iN m (iN m (iN m ps)))))] [], ACalls Tryd.prog 34 [AV.ptr 0 0] [rdC (iN m (iN m (iN m (iN m ps)))), AObj.ints 0 false IntKind.u8 m] (AV.v (.int .i64 (iV m (iN m (iN m (iN m (iN m ps))))))) [(0, rdC (iN m (iN m (iN m (iN m (iN m ps))))))] [], ACalls Tryd.prog 34 [AV.ptr 0 0] [rdC (iN m (iN m (iN m (iN m (iN m ps))))), AObj.ints 0 false IntKind.u8 m] (AV.v (.int .i64 (iV m (iN m (iN m (iN m (iN m (iN m ps)))))))) [(0, rdC (iN m (iN m (iN m (iN m (iN m (iN m ps)))))))] [], fitN (addN (lenR sE y2) (lenR sE [(iV m ps, iV m (iN m ps), iV m (iN m (iN m ps)), iV m (iN m (iN m (iN m ps))), iV m (iN m (iN m (iN m (iN m ps)))), iV m (iN m (iN m (iN m (iN m (iN m ps))))))])) 48, ACalls Tryd.prog 35 [AV.ptr 0 0] [rdC (iN m (iN m (iN m (iN m (iN m (iN m ps)))))), AObj.ints 0 false IntKind.u8 m] (AV.v (.int .i64 (pR (iN m (iN m (iN m (iN m (iN m (iN m ps))))))))) [] [], isB (ine (pR (iN m (iN m (iN m (iN m (iN m (iN m ps))))))) 0) false] (by kernel_rfl) (.cons d0 (.cons (by apply k34 <;> (first | exact (s0))) (.cons (by apply k34 <;> (first | exact (s1))) (.cons (by apply k34 <;> (first | exact (s2))) (.cons (by apply k34 <;> (first | exact (s3))) (.cons (by apply k34 <;> (first | exact (s4))) (.cons (by apply k34 <;> (first | exact (s5))) (.cons (s6) (.cons (by apply k35) (.cons d1 .nil)))))))))) b
theorem L14_3 (w : Bool) (m : List Int) (ps : RS) (x17 : Int) (x18 : Int) (y2 : List (El sE))  (d0 : (ilt x18 x17) = false) : ARun Tryd.prog 1 (.loop (lp Tryd.f14 0)) (L14S w m  ps x17 x18 y2) (L14H w m  ps x17 x18 y2) (AExit.exit 0) (L14T1 w m  (ps) (y2)) (L14U1 w m  (ps) (y2)) :=
  .last [Orc.br false] [2, 3, 4, 6, 43, 49] [0, 1, 2, 3] [isB (ilt x18 x17) false] (by kernel_rfl) (.cons d0 .nil)
def L14B (w : Bool) (m : List Int) (ps : RS) (x17 : Int) (x18 : Int) (y2 : List (El sE)) : Option (((RS) × (Int) × (Int) × (List (El sE))) ⊕ (Nat × (RS) × (Int) × (List (El sE)) × (RS) × (List (El sE)))) := (bif ilt x18 x17 then (bif ine (pR (iN m (iN m (iN m (iN m (iN m (iN m ps))))))) 0 then bif decide ((okS m ps) = true) then bif decide ((okS m (iN m ps)) = true) then bif decide ((okS m (iN m (iN m ps))) = true) then bif decide ((okS m (iN m (iN m (iN m ps)))) = true) then bif decide ((okS m (iN m (iN m (iN m (iN m ps))))) = true) then bif decide ((okS m (iN m (iN m (iN m (iN m (iN m ps)))))) = true) then bif decide (fitN (addN (lenR sE y2) (lenR sE [(iV m ps, iV m (iN m ps), iV m (iN m (iN m ps)), iV m (iN m (iN m (iN m ps))), iV m (iN m (iN m (iN m (iN m ps)))), iV m (iN m (iN m (iN m (iN m (iN m ps))))))])) 48) then some (.inr (0, iN m (iN m (iN m (iN m (iN m (iN m ps))))), pR (iN m (iN m (iN m (iN m (iN m (iN m ps)))))), appR sE y2 [(iV m ps, iV m (iN m ps), iV m (iN m (iN m ps)), iV m (iN m (iN m (iN m ps))), iV m (iN m (iN m (iN m (iN m ps)))), iV m (iN m (iN m (iN m (iN m (iN m ps))))))], default, [])) else none else none else none else none else none else none else none else bif decide ((okS m ps) = true) then bif decide ((okS m (iN m ps)) = true) then bif decide ((okS m (iN m (iN m ps))) = true) then bif decide ((okS m (iN m (iN m (iN m ps)))) = true) then bif decide ((okS m (iN m (iN m (iN m (iN m ps))))) = true) then bif decide ((okS m (iN m (iN m (iN m (iN m (iN m ps)))))) = true) then bif decide (fitN (addN (lenR sE y2) (lenR sE [(iV m ps, iV m (iN m ps), iV m (iN m (iN m ps)), iV m (iN m (iN m (iN m ps))), iV m (iN m (iN m (iN m (iN m ps)))), iV m (iN m (iN m (iN m (iN m (iN m ps))))))])) 48) then some (.inl (iN m (iN m (iN m (iN m (iN m (iN m ps))))), x17, iadd .u64 x18 1, appR sE y2 [(iV m ps, iV m (iN m ps), iV m (iN m (iN m ps)), iV m (iN m (iN m (iN m ps))), iV m (iN m (iN m (iN m (iN m ps)))), iV m (iN m (iN m (iN m (iN m (iN m ps))))))])) else none else none else none else none else none else none else none) else some (.inr (1, default, 0, [], ps, y2)))
def L14L (w : Bool) (m : List Int) : Nat → RS → Int → Int → List (El sE) → Option (Nat × (RS) × (Int) × (List (El sE)) × (RS) × (List (El sE)))
  | 0, _, _, _, _ => none
  | fuel + 1, ps, x17, x18, y2 => match L14B w m  ps x17 x18 y2 with
    | none => none
    | some (.inl s) => L14L w m fuel s.1 s.2.1 s.2.2.1 s.2.2.2
    | some (.inr o) => some o
def L14K (w : Bool) (m : List Int) (fuel : Nat) : Option (((RS) × (Int) × (Int) × (List (El sE))) ⊕ (Nat × (RS) × (Int) × (List (El sE)) × (RS) × (List (El sE)))) → Option (Nat × (RS) × (Int) × (List (El sE)) × (RS) × (List (El sE)))
  | none => none
  | some (.inl s) => L14L w m fuel s.1 s.2.1 s.2.2.1 s.2.2.2
  | some (.inr o) => some o
theorem L14LK (w : Bool) (m : List Int) (fuel : Nat) (ps : RS) (x17 : Int) (x18 : Int) (y2 : List (El sE)) : L14L w m (fuel + 1)  ps x17 x18 y2 = L14K w m fuel (L14B w m  ps x17 x18 y2) := by
  rw [L14L]; cases L14B w m  ps x17 x18 y2 with
  | none => rfl
  | some v => cases v <;> rfl
theorem L14P0 (w : Bool) (m : List Int) (fuel : Nat) (ih : ∀ (ps : RS) (x17 : Int) (x18 : Int) (y2 : List (El sE)) (o0 : RS) (o1 : Int) (o2 : List (El sE)) (_ : L14L w m fuel  ps x17 x18 y2 = some (0, o0, o1, o2, default, [])), ARun Tryd.prog 1 (.loop (lp Tryd.f14 0)) (L14S w m  ps x17 x18 y2) (L14H w m  ps x17 x18 y2) (AExit.ret) (L14T0 w m  o0 o1 o2) (L14U0 w m  o0 o1 o2)) (ps : RS) (x17 : Int) (x18 : Int) (y2 : List (El sE)) (o0 : RS) (o1 : Int) (o2 : List (El sE)) (h : L14K w m fuel (L14B w m  ps x17 x18 y2) = some (0, o0, o1, o2, default, [])) : ARun Tryd.prog 1 (.loop (lp Tryd.f14 0)) (L14S w m  ps x17 x18 y2) (L14H w m  ps x17 x18 y2) (AExit.ret) (L14T0 w m  o0 o1 o2) (L14U0 w m  o0 o1 o2) := by
  unfold L14B at h
  exact (splitK h (fun d0 h => (splitK h (fun d1 h => (chkK rfl h (fun s0 h => chkK rfl h (fun s1 h => chkK rfl h (fun s2 h => chkK rfl h (fun s3 h => chkK rfl h (fun s4 h => chkK rfl h (fun s5 h => chkK rfl h (fun s6 h => (by cases h; exact L14_1 w m  ps x17 x18 y2 d0 d1 s0 s1 s2 s3 s4 s5 s6)))))))))) (fun d1 h => (chkK rfl h (fun s0 h => chkK rfl h (fun s1 h => chkK rfl h (fun s2 h => chkK rfl h (fun s3 h => chkK rfl h (fun s4 h => chkK rfl h (fun s5 h => chkK rfl h (fun s6 h => L14_2 w m  ps x17 x18 y2 d0 d1 s0 s1 s2 s3 s4 s5 s6 (ih (iN m (iN m (iN m (iN m (iN m (iN m ps)))))) (x17) (iadd .u64 x18 1) (appR sE y2 [(iV m ps, iV m (iN m ps), iV m (iN m (iN m ps)), iV m (iN m (iN m (iN m ps))), iV m (iN m (iN m (iN m (iN m ps)))), iV m (iN m (iN m (iN m (iN m (iN m ps))))))]) o0 o1 o2 h)))))))))))) (fun d0 h => ((by cases h))))
theorem L140 (w : Bool) (m : List Int) : ∀ (fuel : Nat) (ps : RS) (x17 : Int) (x18 : Int) (y2 : List (El sE)) (o0 : RS) (o1 : Int) (o2 : List (El sE)) (_ : L14L w m  fuel  ps x17 x18 y2 = some (0, o0, o1, o2, default, [])), ARun Tryd.prog 1 (.loop (lp Tryd.f14 0)) (L14S w m  ps x17 x18 y2) (L14H w m  ps x17 x18 y2) (AExit.ret) (L14T0 w m  o0 o1 o2) (L14U0 w m  o0 o1 o2)
  | 0, _, _, _, _, _, _, _, h => by cases h
  | fuel + 1, ps, x17, x18, y2, o0, o1, o2, h => L14P0 w m fuel (L140 w m fuel)  ps x17 x18 y2  o0 o1 o2 (by rw [L14LK] at h; exact h)
theorem L14P1 (w : Bool) (m : List Int) (fuel : Nat) (ih : ∀ (ps : RS) (x17 : Int) (x18 : Int) (y2 : List (El sE)) (o3 : RS) (o4 : List (El sE)) (_ : L14L w m fuel  ps x17 x18 y2 = some (1, default, 0, [], o3, o4)), ARun Tryd.prog 1 (.loop (lp Tryd.f14 0)) (L14S w m  ps x17 x18 y2) (L14H w m  ps x17 x18 y2) (AExit.exit 0) (L14T1 w m  o3 o4) (L14U1 w m  o3 o4)) (ps : RS) (x17 : Int) (x18 : Int) (y2 : List (El sE)) (o3 : RS) (o4 : List (El sE)) (h : L14K w m fuel (L14B w m  ps x17 x18 y2) = some (1, default, 0, [], o3, o4)) : ARun Tryd.prog 1 (.loop (lp Tryd.f14 0)) (L14S w m  ps x17 x18 y2) (L14H w m  ps x17 x18 y2) (AExit.exit 0) (L14T1 w m  o3 o4) (L14U1 w m  o3 o4) := by
  unfold L14B at h
  exact (splitK h (fun d0 h => (splitK h (fun d1 h => (chkK rfl h (fun s0 h => chkK rfl h (fun s1 h => chkK rfl h (fun s2 h => chkK rfl h (fun s3 h => chkK rfl h (fun s4 h => chkK rfl h (fun s5 h => chkK rfl h (fun s6 h => (by cases h)))))))))) (fun d1 h => (chkK rfl h (fun s0 h => chkK rfl h (fun s1 h => chkK rfl h (fun s2 h => chkK rfl h (fun s3 h => chkK rfl h (fun s4 h => chkK rfl h (fun s5 h => chkK rfl h (fun s6 h => L14_2 w m  ps x17 x18 y2 d0 d1 s0 s1 s2 s3 s4 s5 s6 (ih (iN m (iN m (iN m (iN m (iN m (iN m ps)))))) (x17) (iadd .u64 x18 1) (appR sE y2 [(iV m ps, iV m (iN m ps), iV m (iN m (iN m ps)), iV m (iN m (iN m (iN m ps))), iV m (iN m (iN m (iN m (iN m ps)))), iV m (iN m (iN m (iN m (iN m (iN m ps))))))]) o3 o4 h)))))))))))) (fun d0 h => ((by cases h; exact L14_3 w m  ps x17 x18 y2 d0))))
theorem L141 (w : Bool) (m : List Int) : ∀ (fuel : Nat) (ps : RS) (x17 : Int) (x18 : Int) (y2 : List (El sE)) (o3 : RS) (o4 : List (El sE)) (_ : L14L w m  fuel  ps x17 x18 y2 = some (1, default, 0, [], o3, o4)), ARun Tryd.prog 1 (.loop (lp Tryd.f14 0)) (L14S w m  ps x17 x18 y2) (L14H w m  ps x17 x18 y2) (AExit.exit 0) (L14T1 w m  o3 o4) (L14U1 w m  o3 o4)
  | 0, _, _, _, _, _, _, h => by cases h
  | fuel + 1, ps, x17, x18, y2, o3, o4, h => L14P1 w m fuel (L141 w m fuel)  ps x17 x18 y2  o3 o4 (by rw [L14LK] at h; exact h)
def L15S (m : List Int) (ps : RS) (x5 : Int) (x7 : Int) (y2 : List (El sE)) : Tm := (tg [(0, AV.sw 0 1), (1, AV.v (Value.slice none 0 0)), (0, AV.v (.int .i64 0)), (0, AV.ptr 1 0), (0, AV.v (.int .u64 x5)), (0, AV.sw 2 6), (0, AV.v (.int .u64 x7))] 66)
def L15H (m : List Int) (ps : RS) (x5 : Int) (x7 : Int) (y2 : List (El sE)) : List AObj := [AObj.ints 0 false IntKind.u8 m, AObj.cells 0 true [AV.sw 0 1, AV.v (.int .i64 (pA ps)), AV.v (.int .i64 (pR ps))], AObj.rows true sE y2]
def L15T (m : List Int) (o0 : RS) (o1 : List (El sE)) : Tm := (tg [(0, AV.sw 0 1), (1, AV.v (Value.slice none 0 0)), (0, AV.v (.int .i64 0)), (0, AV.ptr 1 0), (1, AV.sw 2 6)] 67)
def L15U (m : List Int) (o0 : RS) (o1 : List (El sE)) : List AObj := [AObj.ints 0 false IntKind.u8 m, AObj.cells 0 true [AV.sw 0 1, AV.v (.int .i64 (pA o0)), AV.v (.int .i64 (pR o0))], AObj.rows true sE o1]
theorem L15_1 (m : List Int) (ps : RS) (x5 : Int) (x7 : Int) (y2 : List (El sE))  (d0 : (ilt x7 x5) = true) (d1 : (ieq (pR ps) 0) = true) (s0 : (okS m ps) = true) (s1 : (okZ m ps) = true) (s2 : (okS m (iN m ps)) = true) (s3 : (okZ m (iN m ps)) = true) (s4 : (okS m (iN m (iN m ps))) = true) (s5 : (okZ m (iN m (iN m ps))) = true) (s6 : (okS m (iN m (iN m (iN m ps)))) = true) (s7 : (okZ m (iN m (iN m (iN m ps)))) = true) (s8 : (okS m (iN m (iN m (iN m (iN m ps))))) = true) (s9 : (okZ m (iN m (iN m (iN m (iN m ps))))) = true) (s10 : (okS m (iN m (iN m (iN m (iN m (iN m ps)))))) = true) (s11 : (okZ m (iN m (iN m (iN m (iN m (iN m ps)))))) = true) (s12 : fitN (addN (lenR sE y2) (lenR sE [(iV m ps, iV m (iN m ps), iV m (iN m (iN m ps)), iV m (iN m (iN m (iN m ps))), iV m (iN m (iN m (iN m (iN m ps)))), iV m (iN m (iN m (iN m (iN m (iN m ps))))))])) 48) {e : AExit} {tm2 : Tm} {h2 : List AObj} (b : ARun Tryd.prog 1 (.loop (lp Tryd.f15 0)) (L15S m  (iN m (iN m (iN m (iN m (iN m (iN m ps)))))) (x5) (iadd .u64 x7 1) (appR sE y2 [(iV m ps, iV m (iN m ps), iV m (iN m (iN m ps)), iV m (iN m (iN m (iN m ps))), iV m (iN m (iN m (iN m (iN m ps)))), iV m (iN m (iN m (iN m (iN m (iN m ps))))))])) (L15H m  (iN m (iN m (iN m (iN m (iN m (iN m ps)))))) (x5) (iadd .u64 x7 1) (appR sE y2 [(iV m ps, iV m (iN m ps), iV m (iN m (iN m ps)), iV m (iN m (iN m (iN m ps))), iV m (iN m (iN m (iN m (iN m ps)))), iV m (iN m (iN m (iN m (iN m (iN m ps))))))])) e tm2 h2) : ARun Tryd.prog 1 (.loop (lp Tryd.f15 0)) (L15S m  ps x5 x7 y2) (L15H m  ps x5 x7 y2) e tm2 h2 :=
  .round [Orc.br true, Orc.br true, Orc.peel 7, Orc.br true, Orc.call [1, 0] (AV.v (.int .u64 (tV m ps))) [(0, rdC (iN m ps))] [], Orc.call [] (AV.v (.int .i64 (iV m ps))) [] [], Orc.br true, Orc.call [1, 0] (AV.v (.int .u64 (tV m (iN m ps)))) [(0, rdC (iN m (iN m ps)))] [], Orc.call [] (AV.v (.int .i64 (iV m (iN m ps)))) [] [], Orc.br true, Orc.call [1, 0] (AV.v (.int .u64 (tV m (iN m (iN m ps))))) [(0, rdC (iN m (iN m (iN m ps))))] [], Orc.call [] (AV.v (.int .i64 (iV m (iN m (iN m ps))))) [] [], Orc.br true, Orc.call [1, 0] (AV.v (.int .u64 (tV m (iN m (iN m (iN m ps)))))) [(0, rdC (iN m (iN m (iN m (iN m ps)))))] [], Orc.call [] (AV.v (.int .i64 (iV m (iN m (iN m (iN m ps)))))) [] [], Orc.br true, Orc.call [1, 0] (AV.v (.int .u64 (tV m (iN m (iN m (iN m (iN m ps))))))) [(0, rdC (iN m (iN m (iN m (iN m (iN m ps))))))] [], Orc.call [] (AV.v (.int .i64 (iV m (iN m (iN m (iN m (iN m ps))))))) [] [], Orc.br true, Orc.call [1, 0] (AV.v (.int .u64 (tV m (iN m (iN m (iN m (iN m (iN m ps)))))))) [(0, rdC (iN m (iN m (iN m (iN m (iN m (iN m ps)))))))] [], Orc.call [] (AV.v (.int .i64 (iV m (iN m (iN m (iN m (iN m (iN m ps)))))))) [] [], Orc.br false] [0, 2, 3, 4, 5, 6, 7] [0, 1, 5] [isB (ilt x7 x5) true, isB (ieq (pR ps) 0) true, isB true true, ACalls Tryd.prog 37 [AV.ptr 0 0, AV.v (.int .u64 18446744073709551615)] [rdC ps, AObj.ints 0 false IntKind.u8 m] (AV.v (.int .u64 (tV m ps))) [(0, rdC (iN m ps))] [], ACalls Tryd.prog 38 [AV.v (.int .u64 (tV m ps))] [] (AV.v (.int .i64 (iV m ps))) [] [], inB 0 6, isB true true, ACalls Tryd.prog 37 [AV.ptr 0 0, AV.v (.int .u64 18446744073709551615)] [rdC (iN m ps), AObj.ints 0 false IntKind.u8 m] (AV.v (.int .u64 (tV m (iN m ps)))) [(0, rdC (iN m (iN m ps)))] [], ACalls Tryd.prog 38 [AV.v (.int .u64 (tV m (iN m ps)))] [] (AV.v (.int .i64 (iV m (iN m ps)))) [] [], inB 1 6, isB true true, ACalls Tryd.prog 37 [AV.ptr 0 0, AV.v (.int .u64 18446744073709551615)] [rdC (iN m (iN m ps)), AObj.ints 0 false IntKind.u8 m] (AV.v (.int .u64 (tV m (iN m (iN m ps))))) [(0, rdC (iN m (iN m (iN m ps))))] [], ACalls Tryd.prog 38 [AV.v (.int .u64 (tV m (iN m (iN m ps))))] [] (AV.v (.int .i64 (iV m (iN m (iN m ps))))) [] [], inB 2 6, isB true true, ACalls Tryd.prog 37 [AV.ptr 0 0, AV.v (.int .u64 18446744073709551615)] [rdC (iN m (iN m (iN m ps))), AObj.ints 0 false IntKind.u8 m] (AV.v (.int .u64 (tV m (iN m (iN m (iN m ps)))))) [(0, rdC (iN m (iN m (iN m (iN m ps)))))] [], ACalls Tryd.prog 38 [AV.v (.int .u64 (tV m (iN m (iN m (iN m ps)))))] [] (AV.v (.int .i64 (iV m (iN m (iN m (iN m ps)))))) [] [], inB 3 6, isB true true, ACalls Tryd.prog 37 [AV.ptr 0 0, AV.v (.int .u64 18446744073709551615)] [rdC (iN m (iN m (iN m (iN m ps)))), AObj.ints 0 false IntKind.u8 m] (AV.v (.int .u64 (tV m (iN m (iN m (iN m (iN m ps))))))) [(0, rdC (iN m (iN m (iN m (iN m (iN m ps))))))] [], ACalls Tryd.prog 38 [AV.v (.int .u64 (tV m (iN m (iN m (iN m (iN m ps))))))] [] (AV.v (.int .i64 (iV m (iN m (iN m (iN m (iN m ps))))))) [] [], inB 4 6, isB true true, ACalls Tryd.prog 37 [AV.ptr 0 0, AV.v (.int .u64 18446744073709551615)] [rdC (iN m (iN m (iN m (iN m (iN m ps))))), AObj.ints 0 false IntKind.u8 m] (AV.v (.int .u64 (tV m (iN m (iN m (iN m (iN m (iN m ps)))))))) [(0, rdC (iN m (iN m (iN m (iN m (iN m (iN m ps)))))))] [], ACalls Tryd.prog 38 [AV.v (.int .u64 (tV m (iN m (iN m (iN m (iN m (iN m ps)))))))] [] (AV.v (.int .i64 (iV m (iN m (iN m (iN m (iN m (iN m ps)))))))) [] [], inB 5 6, isB false false, inB 0 6, inB 1 6, inB 2 6, inB 3 6, inB 4 6, inB 5 6, fitN (addN (lenR sE y2) (lenR sE [(iV m ps, iV m (iN m ps), iV m (iN m (iN m ps)), iV m (iN m (iN m (iN m ps))), iV m (iN m (iN m (iN m (iN m ps)))), iV m (iN m (iN m (iN m (iN m (iN m ps))))))])) 48] (by kernel_rfl) (.cons d0 (.cons d1 (.cons (by show _ = _; kernel_rfl) (.cons (by apply k37 <;> (first | exact (s0))) (.cons (by apply k38 <;> (first | exact (s1))) (.cons (by first | decide | simp [nz, nn, inB, ltN, leN, eqN, eqZ, inC, zOk, growN, fitN]) (.cons (by show _ = _; kernel_rfl) (.cons (by apply k37 <;> (first | exact (s2))) (.cons (by apply k38 <;> (first | exact (s3))) (.cons (by first | decide | simp [nz, nn, inB, ltN, leN, eqN, eqZ, inC, zOk, growN, fitN]) (.cons (by show _ = _; kernel_rfl) (.cons (by apply k37 <;> (first | exact (s4))) (.cons (by apply k38 <;> (first | exact (s5))) (.cons (by first | decide | simp [nz, nn, inB, ltN, leN, eqN, eqZ, inC, zOk, growN, fitN]) (.cons (by show _ = _; kernel_rfl) (.cons (by apply k37 <;> (first | exact (s6))) (.cons (by apply k38 <;> (first | exact (s7))) (.cons (by first | decide | simp [nz, nn, inB, ltN, leN, eqN, eqZ, inC, zOk, growN, fitN]) (.cons (by show _ = _; kernel_rfl) (.cons (by apply k37 <;> (first | exact (s8))) (.cons (by apply k38 <;> (first | exact (s9))) (.cons (by first | decide | simp [nz, nn, inB, ltN, leN, eqN, eqZ, inC, zOk, growN, fitN]) (.cons (by show _ = _; kernel_rfl) (.cons (by apply k37 <;> (first | exact (s10))) (.cons (by apply k38 <;> (first | exact (s11))) (.cons (by first | decide | simp [nz, nn, inB, ltN, leN, eqN, eqZ, inC, zOk, growN, fitN]) (.cons (by show _ = _; kernel_rfl) (.cons (by first | decide | simp [nz, nn, inB, ltN, leN, eqN, eqZ, inC, zOk, growN, fitN]) (.cons (by first | decide | simp [nz, nn, inB, ltN, leN, eqN, eqZ, inC, zOk, growN, fitN]) (.cons (by first | decide | simp [nz, nn, inB, ltN, leN, eqN, eqZ, inC, zOk, growN, fitN]) (.cons (by first | decide | simp [nz, nn, inB, ltN, leN, eqN, eqZ, inC, zOk, growN, fitN]) (.cons (by first | decide | simp [nz, nn, inB, ltN, leN, eqN, eqZ, inC, zOk, growN, fitN]) (.cons (by first | decide | simp [nz, nn, inB, ltN, leN, eqN, eqZ, inC, zOk, growN, fitN]) (.cons (s12) .nil)))))))))))))))))))))))))))))))))) b
theorem L15_2 (m : List Int) (ps : RS) (x5 : Int) (x7 : Int) (y2 : List (El sE))  (d0 : (ilt x7 x5) = true) (d1 : (ieq (pR ps) 0) = false) : ARun Tryd.prog 1 (.loop (lp Tryd.f15 0)) (L15S m  ps x5 x7 y2) (L15H m  ps x5 x7 y2) (AExit.exit 0) (L15T m  (ps) (y2)) (L15U m  (ps) (y2)) :=
  .last [Orc.br true, Orc.br false] [0, 2, 3, 4, 6, 61, 72] [0, 1, 2] [isB (ilt x7 x5) true, isB (ieq (pR ps) 0) false] (by kernel_rfl) (.cons d0 (.cons d1 .nil))
theorem L15_3 (m : List Int) (ps : RS) (x5 : Int) (x7 : Int) (y2 : List (El sE))  (d0 : (ilt x7 x5) = false) : ARun Tryd.prog 1 (.loop (lp Tryd.f15 0)) (L15S m  ps x5 x7 y2) (L15H m  ps x5 x7 y2) (AExit.exit 0) (L15T m  (ps) (y2)) (L15U m  (ps) (y2)) :=
  .last [Orc.br false, Orc.br false] [0, 2, 3, 4, 6, 61, 72] [0, 1, 2] [isB (ilt x7 x5) false, isB false false] (by kernel_rfl) (.cons d0 (.cons (by show _ = _; kernel_rfl) .nil))
def L15B (m : List Int) (ps : RS) (x5 : Int) (x7 : Int) (y2 : List (El sE)) : Option (((RS) × (Int) × (Int) × (List (El sE))) ⊕ ((RS) × (List (El sE)))) := (bif ilt x7 x5 then (bif ieq (pR ps) 0 then bif decide ((okS m ps) = true) then bif decide ((okZ m ps) = true) then bif decide ((okS m (iN m ps)) = true) then bif decide ((okZ m (iN m ps)) = true) then bif decide ((okS m (iN m (iN m ps))) = true) then bif decide ((okZ m (iN m (iN m ps))) = true) then bif decide ((okS m (iN m (iN m (iN m ps)))) = true) then bif decide ((okZ m (iN m (iN m (iN m ps)))) = true) then bif decide ((okS m (iN m (iN m (iN m (iN m ps))))) = true) then bif decide ((okZ m (iN m (iN m (iN m (iN m ps))))) = true) then bif decide ((okS m (iN m (iN m (iN m (iN m (iN m ps)))))) = true) then bif decide ((okZ m (iN m (iN m (iN m (iN m (iN m ps)))))) = true) then bif decide (fitN (addN (lenR sE y2) (lenR sE [(iV m ps, iV m (iN m ps), iV m (iN m (iN m ps)), iV m (iN m (iN m (iN m ps))), iV m (iN m (iN m (iN m (iN m ps)))), iV m (iN m (iN m (iN m (iN m (iN m ps))))))])) 48) then some (.inl (iN m (iN m (iN m (iN m (iN m (iN m ps))))), x5, iadd .u64 x7 1, appR sE y2 [(iV m ps, iV m (iN m ps), iV m (iN m (iN m ps)), iV m (iN m (iN m (iN m ps))), iV m (iN m (iN m (iN m (iN m ps)))), iV m (iN m (iN m (iN m (iN m (iN m ps))))))])) else none else none else none else none else none else none else none else none else none else none else none else none else none else some (.inr (ps, y2))) else some (.inr (ps, y2)))
def L15L (m : List Int) : Nat → RS → Int → Int → List (El sE) → Option ((RS) × (List (El sE)))
  | 0, _, _, _, _ => none
  | fuel + 1, ps, x5, x7, y2 => match L15B m  ps x5 x7 y2 with
    | none => none
    | some (.inl s) => L15L m fuel s.1 s.2.1 s.2.2.1 s.2.2.2
    | some (.inr o) => some o
def L15K (m : List Int) (fuel : Nat) : Option (((RS) × (Int) × (Int) × (List (El sE))) ⊕ ((RS) × (List (El sE)))) → Option ((RS) × (List (El sE)))
  | none => none
  | some (.inl s) => L15L m fuel s.1 s.2.1 s.2.2.1 s.2.2.2
  | some (.inr o) => some o
theorem L15LK (m : List Int) (fuel : Nat) (ps : RS) (x5 : Int) (x7 : Int) (y2 : List (El sE)) : L15L m (fuel + 1)  ps x5 x7 y2 = L15K m fuel (L15B m  ps x5 x7 y2) := by
  rw [L15L]; cases L15B m  ps x5 x7 y2 with
  | none => rfl
  | some v => cases v <;> rfl
theorem L15P (m : List Int) (fuel : Nat) (ih : ∀ (ps : RS) (x5 : Int) (x7 : Int) (y2 : List (El sE)) (o0 : RS) (o1 : List (El sE)) (_ : L15L m fuel  ps x5 x7 y2 = some (o0, o1)), ARun Tryd.prog 1 (.loop (lp Tryd.f15 0)) (L15S m  ps x5 x7 y2) (L15H m  ps x5 x7 y2) (AExit.exit 0) (L15T m  o0 o1) (L15U m  o0 o1)) (ps : RS) (x5 : Int) (x7 : Int) (y2 : List (El sE)) (o0 : RS) (o1 : List (El sE)) (h : L15K m fuel (L15B m  ps x5 x7 y2) = some (o0, o1)) : ARun Tryd.prog 1 (.loop (lp Tryd.f15 0)) (L15S m  ps x5 x7 y2) (L15H m  ps x5 x7 y2) (AExit.exit 0) (L15T m  o0 o1) (L15U m  o0 o1) := by
  unfold L15B at h
  exact (splitK h (fun d0 h => (splitK h (fun d1 h => (chkK rfl h (fun s0 h => chkK rfl h (fun s1 h => chkK rfl h (fun s2 h => chkK rfl h (fun s3 h => chkK rfl h (fun s4 h => chkK rfl h (fun s5 h => chkK rfl h (fun s6 h => chkK rfl h (fun s7 h => chkK rfl h (fun s8 h => chkK rfl h (fun s9 h => chkK rfl h (fun s10 h => chkK rfl h (fun s11 h => chkK rfl h (fun s12 h => L15_1 m  ps x5 x7 y2 d0 d1 s0 s1 s2 s3 s4 s5 s6 s7 s8 s9 s10 s11 s12 (ih (iN m (iN m (iN m (iN m (iN m (iN m ps)))))) (x5) (iadd .u64 x7 1) (appR sE y2 [(iV m ps, iV m (iN m ps), iV m (iN m (iN m ps)), iV m (iN m (iN m (iN m ps))), iV m (iN m (iN m (iN m (iN m ps)))), iV m (iN m (iN m (iN m (iN m (iN m ps))))))]) o0 o1 h)))))))))))))))) (fun d1 h => ((by cases h; exact L15_2 m  ps x5 x7 y2 d0 d1))))) (fun d0 h => ((by cases h; exact L15_3 m  ps x5 x7 y2 d0))))
theorem L15 (m : List Int) : ∀ (fuel : Nat) (ps : RS) (x5 : Int) (x7 : Int) (y2 : List (El sE)) (o0 : RS) (o1 : List (El sE)) (_ : L15L m  fuel  ps x5 x7 y2 = some (o0, o1)), ARun Tryd.prog 1 (.loop (lp Tryd.f15 0)) (L15S m  ps x5 x7 y2) (L15H m  ps x5 x7 y2) (AExit.exit 0) (L15T m  o0 o1) (L15U m  o0 o1)
  | 0, _, _, _, _, _, _, h => by cases h
  | fuel + 1, ps, x5, x7, y2, o0, o1, h => L15P m fuel (L15 m fuel)  ps x5 x7 y2  o0 o1 (by rw [L15LK] at h; exact h)
def f14r0 (w : Bool) (m : List Int) (L140_0_c : Nat) (L140_0_fuel : Nat) (L140_0_o0 : RS) (L140_0_o1 : Int) (L140_0_o2 : List (El sE)) (L140_0_fuel1 : Nat) (L140_0_o31 : RS) (L140_0_o41 : List (El sE)) : Int := bif (ilt (icv .u64 (nlen (lenI m))) (tV m r0)) then 5 else (bif (Nat.beq L140_0_c 0) then (pR L140_0_o0) else (bif (ine (pR L140_0_o31) 0) then (pR L140_0_o31) else (bif (ilt 0 (lfS m L140_0_o31)) then 4 else 0)))
def f14r1 (w : Bool) (m : List Int) (L140_0_c : Nat) (L140_0_fuel : Nat) (L140_0_o0 : RS) (L140_0_o1 : Int) (L140_0_o2 : List (El sE)) (L140_0_fuel1 : Nat) (L140_0_o31 : RS) (L140_0_o41 : List (El sE)) : List (El sE) := bif (ilt (icv .u64 (nlen (lenI m))) (tV m r0)) then [] else (bif (Nat.beq L140_0_c 0) then [] else (bif (ine (pR L140_0_o31) 0) then [] else (bif (ilt 0 (lfS m L140_0_o31)) then [] else L140_0_o41)))
theorem f14_1 (w : Bool) (m : List Int)  (d0 : (ilt (icv .u64 (nlen (lenI m))) (tV m r0)) = true) (s0 : fitN (lenI m) 1) (s1 : (okS m r0) = true) : ACalls Tryd.prog 14 [AV.sw 0 1] [AObj.ints 0 w IntKind.u8 m] (AV.tup [AV.sw 1 6, AV.v (.int .i64 5)]) [] [AObj.rows true sE []] :=
  ACalls.nb (res := AV.tup [AV.sw 1 6, AV.v (.int .i64 5)]) (.of_out [Orc.call [0] (AV.ptr 1 0) [] [AObj.cells 0 true [AV.sw 2 1, AV.v (.int .i64 (pA r0)), AV.v (.int .i64 (pR r0))], AObj.ints 0 false IntKind.u8 m], Orc.call [1, 2] (AV.v (.int .u64 (tV m r0))) [(0, rdC (iN m r0))] [], Orc.br true, Orc.fin (Gh.nil 2 6 (AObj.rows true sE []))] [0, 3] [ACalls Tryd.prog 32 [AV.sw 0 1] [AObj.ints 0 w IntKind.u8 m] (AV.ptr 1 0) [] [AObj.cells 0 true [AV.sw 2 1, AV.v (.int .i64 (pA r0)), AV.v (.int .i64 (pR r0))], AObj.ints 0 false IntKind.u8 m], ACalls Tryd.prog 33 [AV.ptr 0 0] [rdC r0, AObj.ints 0 false IntKind.u8 m] (AV.v (.int .u64 (tV m r0))) [(0, rdC (iN m r0))] [], isB (ilt (icv .u64 (nlen (lenI m))) (tV m r0)) true] Tryd.func14 (by kernel_rfl) (by kernel_rfl) (.cons (by apply k32 <;> (first | exact (s0))) (.cons (by apply k33 <;> (first | exact (s1))) (.cons d0 .nil))))
theorem f14_2 (w : Bool) (m : List Int) (L140_0_c : Nat) (L140_0_fuel : Nat) (L140_0_o0 : RS) (L140_0_o1 : Int) (L140_0_o2 : List (El sE))  (d0 : (ilt (icv .u64 (nlen (lenI m))) (tV m r0)) = false) (d1 : (Nat.beq L140_0_c 0) = true) (L140_0_h0 : ((ilt (icv .u64 (nlen (lenI m))) (tV m r0)) = false) → ((Nat.beq L140_0_c 0) = true) → (L14L w m L140_0_fuel (iN m r0) (tV m r0) 0 []) = (some (0, L140_0_o0, L140_0_o1, L140_0_o2, instInhabitedRS.default, []))) (s0 : fitN (lenI m) 1) (s1 : (okS m r0) = true) : ACalls Tryd.prog 14 [AV.sw 0 1] [AObj.ints 0 w IntKind.u8 m] (AV.tup [AV.sw 1 6, AV.v (.int .i64 (pR L140_0_o0))]) [] [AObj.rows true sE []] :=
  ACalls.nb (res := AV.tup [AV.sw 1 6, AV.v (.int .i64 (pR L140_0_o0))]) (.of_out [Orc.call [0] (AV.ptr 1 0) [] [AObj.cells 0 true [AV.sw 2 1, AV.v (.int .i64 (pA r0)), AV.v (.int .i64 (pR r0))], AObj.ints 0 false IntKind.u8 m], Orc.call [1, 2] (AV.v (.int .u64 (tV m r0))) [(0, rdC (iN m r0))] [], Orc.br false, Orc.fin (Gh.nil 6 6 (AObj.rows true sE [])), Orc.loop [2, 3, 4, 6, 17, 18] [0, 1, 3, 2] AExit.ret (tg [(2, AV.v (Value.slice none 0 0)), (0, AV.v (.int .i64 (pR L140_0_o0))), (0, AV.ptr 1 0), (1, AV.sw 2 6)] 47) [AObj.ints 0 w IntKind.u8 m, AObj.cells 0 true [AV.sw 3 1, AV.v (.int .i64 (pA L140_0_o0)), AV.v (.int .i64 L140_0_o1)], AObj.rows true sE L140_0_o2, AObj.ints 0 false IntKind.u8 m], Orc.fin (Gh.nil 2 6 (AObj.rows true sE []))] [0, 4] [ACalls Tryd.prog 32 [AV.sw 0 1] [AObj.ints 0 w IntKind.u8 m] (AV.ptr 1 0) [] [AObj.cells 0 true [AV.sw 2 1, AV.v (.int .i64 (pA r0)), AV.v (.int .i64 (pR r0))], AObj.ints 0 false IntKind.u8 m], ACalls Tryd.prog 33 [AV.ptr 0 0] [rdC r0, AObj.ints 0 false IntKind.u8 m] (AV.v (.int .u64 (tV m r0))) [(0, rdC (iN m r0))] [], isB (ilt (icv .u64 (nlen (lenI m))) (tV m r0)) false, _] Tryd.func14 (by kernel_rfl) (by kernel_rfl) (.cons (by apply k32 <;> (first | exact (s0))) (.cons (by apply k33 <;> (first | exact (s1))) (.cons d0 (.cons (L140 _ _ _ _ _ _ _ _ _ _ (L140_0_h0 d0 d1)) .nil)))))
theorem f14_3 (w : Bool) (m : List Int) (L140_0_c : Nat) (L140_0_fuel1 : Nat) (L140_0_o31 : RS) (L140_0_o41 : List (El sE))  (d0 : (ilt (icv .u64 (nlen (lenI m))) (tV m r0)) = false) (d1 : (Nat.beq L140_0_c 0) = false) (d2 : (ine (pR L140_0_o31) 0) = true) (L140_0_h1 : ((ilt (icv .u64 (nlen (lenI m))) (tV m r0)) = false) → ((Nat.beq L140_0_c 0) = false) → (L14L w m L140_0_fuel1 (iN m r0) (tV m r0) 0 []) = (some (1, instInhabitedRS.default, 0, [], L140_0_o31, L140_0_o41))) (s0 : fitN (lenI m) 1) (s1 : (okS m r0) = true) : ACalls Tryd.prog 14 [AV.sw 0 1] [AObj.ints 0 w IntKind.u8 m] (AV.tup [AV.sw 1 6, AV.v (.int .i64 (pR L140_0_o31))]) [] [AObj.rows true sE []] :=
  ACalls.nb (res := AV.tup [AV.sw 1 6, AV.v (.int .i64 (pR L140_0_o31))]) (.of_out [Orc.call [0] (AV.ptr 1 0) [] [AObj.cells 0 true [AV.sw 2 1, AV.v (.int .i64 (pA r0)), AV.v (.int .i64 (pR r0))], AObj.ints 0 false IntKind.u8 m], Orc.call [1, 2] (AV.v (.int .u64 (tV m r0))) [(0, rdC (iN m r0))] [], Orc.br false, Orc.fin (Gh.nil 6 6 (AObj.rows true sE [])), Orc.loop [2, 3, 4, 6, 17, 18] [0, 1, 3, 2] (AExit.exit 0) (tg [(2, AV.v (Value.slice none 0 0)), (0, AV.v (.int .i64 0)), (0, AV.ptr 1 0), (1, AV.sw 2 6)] 47) [AObj.ints 0 w IntKind.u8 m, AObj.cells 0 true [AV.sw 3 1, AV.v (.int .i64 (pA L140_0_o31)), AV.v (.int .i64 (pR L140_0_o31))], AObj.rows true sE L140_0_o41, AObj.ints 0 false IntKind.u8 m], Orc.call [1, 3] (AV.v (.int .i64 (pR L140_0_o31))) [] [], Orc.br true, Orc.call [1, 3] (AV.v (.int .i64 (pR L140_0_o31))) [] [], Orc.fin (Gh.nil 2 6 (AObj.rows true sE []))] [0, 4] [ACalls Tryd.prog 32 [AV.sw 0 1] [AObj.ints 0 w IntKind.u8 m] (AV.ptr 1 0) [] [AObj.cells 0 true [AV.sw 2 1, AV.v (.int .i64 (pA r0)), AV.v (.int .i64 (pR r0))], AObj.ints 0 false IntKind.u8 m], ACalls Tryd.prog 33 [AV.ptr 0 0] [rdC r0, AObj.ints 0 false IntKind.u8 m] (AV.v (.int .u64 (tV m r0))) [(0, rdC (iN m r0))] [], isB (ilt (icv .u64 (nlen (lenI m))) (tV m r0)) false, _, ACalls Tryd.prog 35 [AV.ptr 0 0] [rdC L140_0_o31, AObj.ints 0 false IntKind.u8 m] (AV.v (.int .i64 (pR L140_0_o31))) [] [], isB (ine (pR L140_0_o31) 0) true, ACalls Tryd.prog 35 [AV.ptr 0 0] [rdC L140_0_o31, AObj.ints 0 false IntKind.u8 m] (AV.v (.int .i64 (pR L140_0_o31))) [] []] Tryd.func14 (by kernel_rfl) (by kernel_rfl) (.cons (by apply k32 <;> (first | exact (s0))) (.cons (by apply k33 <;> (first | exact (s1))) (.cons d0 (.cons (L141 _ _ _ _ _ _ _ _ _ (L140_0_h1 d0 d1)) (.cons (by apply k35) (.cons d2 (.cons (by apply k35) .nil))))))))
theorem f14_4 (w : Bool) (m : List Int) (L140_0_c : Nat) (L140_0_fuel1 : Nat) (L140_0_o31 : RS) (L140_0_o41 : List (El sE))  (d0 : (ilt (icv .u64 (nlen (lenI m))) (tV m r0)) = false) (d1 : (Nat.beq L140_0_c 0) = false) (d2 : (ine (pR L140_0_o31) 0) = false) (d3 : (ilt 0 (lfS m L140_0_o31)) = true) (L140_0_h1 : ((ilt (icv .u64 (nlen (lenI m))) (tV m r0)) = false) → ((Nat.beq L140_0_c 0) = false) → (L14L w m L140_0_fuel1 (iN m r0) (tV m r0) 0 []) = (some (1, instInhabitedRS.default, 0, [], L140_0_o31, L140_0_o41))) (s0 : fitN (lenI m) 1) (s1 : (okS m r0) = true) (s2 : ((ilt (icv .u64 (nlen (lenI m))) (tV m r0)) = false) → ((Nat.beq L140_0_c 0) = false) → ((ine (pR L140_0_o31) 0) = false) → (okS m L140_0_o31) = true) : ACalls Tryd.prog 14 [AV.sw 0 1] [AObj.ints 0 w IntKind.u8 m] (AV.tup [AV.sw 1 6, AV.v (.int .i64 4)]) [] [AObj.rows true sE []] :=
  ACalls.nb (res := AV.tup [AV.sw 1 6, AV.v (.int .i64 4)]) (.of_out [Orc.call [0] (AV.ptr 1 0) [] [AObj.cells 0 true [AV.sw 2 1, AV.v (.int .i64 (pA r0)), AV.v (.int .i64 (pR r0))], AObj.ints 0 false IntKind.u8 m], Orc.call [1, 2] (AV.v (.int .u64 (tV m r0))) [(0, rdC (iN m r0))] [], Orc.br false, Orc.fin (Gh.nil 6 6 (AObj.rows true sE [])), Orc.loop [2, 3, 4, 6, 17, 18] [0, 1, 3, 2] (AExit.exit 0) (tg [(2, AV.v (Value.slice none 0 0)), (0, AV.v (.int .i64 0)), (0, AV.ptr 1 0), (1, AV.sw 2 6)] 47) [AObj.ints 0 w IntKind.u8 m, AObj.cells 0 true [AV.sw 3 1, AV.v (.int .i64 (pA L140_0_o31)), AV.v (.int .i64 (pR L140_0_o31))], AObj.rows true sE L140_0_o41, AObj.ints 0 false IntKind.u8 m], Orc.call [1, 3] (AV.v (.int .i64 (pR L140_0_o31))) [] [], Orc.br false, Orc.call [1, 3] (AV.v (.int .i64 (lfS m L140_0_o31))) [] [], Orc.br true, Orc.fin (Gh.nil 2 6 (AObj.rows true sE []))] [0, 4] [ACalls Tryd.prog 32 [AV.sw 0 1] [AObj.ints 0 w IntKind.u8 m] (AV.ptr 1 0) [] [AObj.cells 0 true [AV.sw 2 1, AV.v (.int .i64 (pA r0)), AV.v (.int .i64 (pR r0))], AObj.ints 0 false IntKind.u8 m], ACalls Tryd.prog 33 [AV.ptr 0 0] [rdC r0, AObj.ints 0 false IntKind.u8 m] (AV.v (.int .u64 (tV m r0))) [(0, rdC (iN m r0))] [], isB (ilt (icv .u64 (nlen (lenI m))) (tV m r0)) false, _, ACalls Tryd.prog 35 [AV.ptr 0 0] [rdC L140_0_o31, AObj.ints 0 false IntKind.u8 m] (AV.v (.int .i64 (pR L140_0_o31))) [] [], isB (ine (pR L140_0_o31) 0) false, ACalls Tryd.prog 36 [AV.ptr 0 0] [rdC L140_0_o31, AObj.ints 0 false IntKind.u8 m] (AV.v (.int .i64 (lfS m L140_0_o31))) [] [], isB (ilt 0 (lfS m L140_0_o31)) true] Tryd.func14 (by kernel_rfl) (by kernel_rfl) (.cons (by apply k32 <;> (first | exact (s0))) (.cons (by apply k33 <;> (first | exact (s1))) (.cons d0 (.cons (L141 _ _ _ _ _ _ _ _ _ (L140_0_h1 d0 d1)) (.cons (by apply k35) (.cons d2 (.cons (by apply k36 <;> (first | exact (s2 d0 d1 d2))) (.cons d3 .nil)))))))))
theorem f14_5 (w : Bool) (m : List Int) (L140_0_c : Nat) (L140_0_fuel1 : Nat) (L140_0_o31 : RS) (L140_0_o41 : List (El sE))  (d0 : (ilt (icv .u64 (nlen (lenI m))) (tV m r0)) = false) (d1 : (Nat.beq L140_0_c 0) = false) (d2 : (ine (pR L140_0_o31) 0) = false) (d3 : (ilt 0 (lfS m L140_0_o31)) = false) (L140_0_h1 : ((ilt (icv .u64 (nlen (lenI m))) (tV m r0)) = false) → ((Nat.beq L140_0_c 0) = false) → (L14L w m L140_0_fuel1 (iN m r0) (tV m r0) 0 []) = (some (1, instInhabitedRS.default, 0, [], L140_0_o31, L140_0_o41))) (s0 : fitN (lenI m) 1) (s1 : (okS m r0) = true) (s2 : ((ilt (icv .u64 (nlen (lenI m))) (tV m r0)) = false) → ((Nat.beq L140_0_c 0) = false) → ((ine (pR L140_0_o31) 0) = false) → (okS m L140_0_o31) = true) : ACalls Tryd.prog 14 [AV.sw 0 1] [AObj.ints 0 w IntKind.u8 m] (AV.tup [AV.sw 1 6, AV.v (.int .i64 0)]) [] [AObj.rows true sE L140_0_o41] :=
  ACalls.nb (res := AV.tup [AV.sw 1 6, AV.v (.int .i64 0)]) (.of_out [Orc.call [0] (AV.ptr 1 0) [] [AObj.cells 0 true [AV.sw 2 1, AV.v (.int .i64 (pA r0)), AV.v (.int .i64 (pR r0))], AObj.ints 0 false IntKind.u8 m], Orc.call [1, 2] (AV.v (.int .u64 (tV m r0))) [(0, rdC (iN m r0))] [], Orc.br false, Orc.fin (Gh.nil 6 6 (AObj.rows true sE [])), Orc.loop [2, 3, 4, 6, 17, 18] [0, 1, 3, 2] (AExit.exit 0) (tg [(2, AV.v (Value.slice none 0 0)), (0, AV.v (.int .i64 0)), (0, AV.ptr 1 0), (1, AV.sw 2 6)] 47) [AObj.ints 0 w IntKind.u8 m, AObj.cells 0 true [AV.sw 3 1, AV.v (.int .i64 (pA L140_0_o31)), AV.v (.int .i64 (pR L140_0_o31))], AObj.rows true sE L140_0_o41, AObj.ints 0 false IntKind.u8 m], Orc.call [1, 3] (AV.v (.int .i64 (pR L140_0_o31))) [] [], Orc.br false, Orc.call [1, 3] (AV.v (.int .i64 (lfS m L140_0_o31))) [] [], Orc.br false] [0, 2] [ACalls Tryd.prog 32 [AV.sw 0 1] [AObj.ints 0 w IntKind.u8 m] (AV.ptr 1 0) [] [AObj.cells 0 true [AV.sw 2 1, AV.v (.int .i64 (pA r0)), AV.v (.int .i64 (pR r0))], AObj.ints 0 false IntKind.u8 m], ACalls Tryd.prog 33 [AV.ptr 0 0] [rdC r0, AObj.ints 0 false IntKind.u8 m] (AV.v (.int .u64 (tV m r0))) [(0, rdC (iN m r0))] [], isB (ilt (icv .u64 (nlen (lenI m))) (tV m r0)) false, _, ACalls Tryd.prog 35 [AV.ptr 0 0] [rdC L140_0_o31, AObj.ints 0 false IntKind.u8 m] (AV.v (.int .i64 (pR L140_0_o31))) [] [], isB (ine (pR L140_0_o31) 0) false, ACalls Tryd.prog 36 [AV.ptr 0 0] [rdC L140_0_o31, AObj.ints 0 false IntKind.u8 m] (AV.v (.int .i64 (lfS m L140_0_o31))) [] [], isB (ilt 0 (lfS m L140_0_o31)) false] Tryd.func14 (by kernel_rfl) (by kernel_rfl) (.cons (by apply k32 <;> (first | exact (s0))) (.cons (by apply k33 <;> (first | exact (s1))) (.cons d0 (.cons (L141 _ _ _ _ _ _ _ _ _ (L140_0_h1 d0 d1)) (.cons (by apply k35) (.cons d2 (.cons (by apply k36 <;> (first | exact (s2 d0 d1 d2))) (.cons d3 .nil)))))))))
theorem f14 (w : Bool) (m : List Int) (L140_0_c : Nat) (L140_0_fuel : Nat) (L140_0_o0 : RS) (L140_0_o1 : Int) (L140_0_o2 : List (El sE)) (L140_0_fuel1 : Nat) (L140_0_o31 : RS) (L140_0_o41 : List (El sE)) (L140_0_h0 : ((ilt (icv .u64 (nlen (lenI m))) (tV m r0)) = false) → ((Nat.beq L140_0_c 0) = true) → (L14L w m L140_0_fuel (iN m r0) (tV m r0) 0 []) = (some (0, L140_0_o0, L140_0_o1, L140_0_o2, instInhabitedRS.default, []))) (L140_0_h1 : ((ilt (icv .u64 (nlen (lenI m))) (tV m r0)) = false) → ((Nat.beq L140_0_c 0) = false) → (L14L w m L140_0_fuel1 (iN m r0) (tV m r0) 0 []) = (some (1, instInhabitedRS.default, 0, [], L140_0_o31, L140_0_o41))) (s0 : fitN (lenI m) 1) (s1 : (okS m r0) = true) (s2 : ((ilt (icv .u64 (nlen (lenI m))) (tV m r0)) = false) → ((Nat.beq L140_0_c 0) = false) → ((ine (pR L140_0_o31) 0) = false) → (okS m L140_0_o31) = true) : ACalls Tryd.prog 14 [AV.sw 0 1] [AObj.ints 0 w IntKind.u8 m] (AV.tup [AV.sw 1 6, AV.v (.int .i64 (f14r0 w m L140_0_c L140_0_fuel L140_0_o0 L140_0_o1 L140_0_o2 L140_0_fuel1 L140_0_o31 L140_0_o41))]) [] [AObj.rows true sE (f14r1 w m L140_0_c L140_0_fuel L140_0_o0 L140_0_o1 L140_0_o2 L140_0_fuel1 L140_0_o31 L140_0_o41)] := by
  have h := (ACalls.cond (ilt (icv .u64 (nlen (lenI m))) (tV m r0)) (fun d0 => (f14_1 w m d0 s0 s1)) (fun d0 => (ACalls.cond (Nat.beq L140_0_c 0) (fun d1 => (f14_2 w m L140_0_c L140_0_fuel L140_0_o0 L140_0_o1 L140_0_o2 d0 d1 L140_0_h0 s0 s1)) (fun d1 => (ACalls.cond (ine (pR L140_0_o31) 0) (fun d2 => (f14_3 w m L140_0_c L140_0_fuel1 L140_0_o31 L140_0_o41 d0 d1 d2 L140_0_h1 s0 s1)) (fun d2 => (ACalls.cond (ilt 0 (lfS m L140_0_o31)) (fun d3 => (f14_4 w m L140_0_c L140_0_fuel1 L140_0_o31 L140_0_o41 d0 d1 d2 d3 L140_0_h1 s0 s1 s2)) (fun d3 => (f14_5 w m L140_0_c L140_0_fuel1 L140_0_o31 L140_0_o41 d0 d1 d2 d3 L140_0_h1 s0 s1 s2)))))))))
  simp only [c_int, c_bool, c_str, c_agg, c_tup, c_fn, c_ifc, c_sl, c_pe, c_ptr, c_rows, c_siter, c_consA, c_consU, c_consO, c_cells, c_ints, c_bools, c_strs, c_same] at h
  exact h
def f15r0 (m : List Int) (L15_0_fuel : Nat) (L15_0_o0 : RS) (L15_0_o1 : List (El sE)) : Int := bif (ilt (icv .u64 (nlen (lenI m))) (tV m r0)) then 5 else (bif (ine (pR L15_0_o0) 0) then (pR L15_0_o0) else (bif (ilt (pA L15_0_o0) (nlen (lenI m))) then 4 else 0))
def f15r1 (m : List Int) (L15_0_fuel : Nat) (L15_0_o0 : RS) (L15_0_o1 : List (El sE)) : List (El sE) := bif (ilt (icv .u64 (nlen (lenI m))) (tV m r0)) then [] else (bif (ine (pR L15_0_o0) 0) then [] else (bif (ilt (pA L15_0_o0) (nlen (lenI m))) then [] else L15_0_o1))
theorem f15_1 (m : List Int)  (d0 : (ilt (icv .u64 (nlen (lenI m))) (tV m r0)) = true) (s0 : (okS m r0) = true) : ACalls Tryd.prog 15 [AV.sw 0 1] [AObj.ints 0 false IntKind.u8 m] (AV.tup [AV.sw 1 6, AV.v (.int .i64 5)]) [] [AObj.rows true sE []] :=
  ACalls.nb (res := AV.tup [AV.sw 1 6, AV.v (.int .i64 5)]) (.of_out [Orc.call [1, 0] (AV.v (.int .u64 (tV m r0))) [(0, rdC (iN m r0))] [], Orc.br true, Orc.fin (Gh.nil 2 6 (AObj.rows true sE []))] [0, 2] [ACalls Tryd.prog 37 [AV.ptr 0 0, AV.v (.int .u64 18446744073709551615)] [AObj.cells 0 true [AV.sw 1 1, AV.v (.int .i64 0), AV.v (.int .i64 0)], AObj.ints 0 false IntKind.u8 m] (AV.v (.int .u64 (tV m r0))) [(0, rdC (iN m r0))] [], isB (ilt (icv .u64 (nlen (lenI m))) (tV m r0)) true] Tryd.func15 (by kernel_rfl) (by kernel_rfl) (.cons (by apply k37z <;> (first | exact (s0))) (.cons d0 .nil)))
theorem f15_2 (m : List Int) (L15_0_fuel : Nat) (L15_0_o0 : RS) (L15_0_o1 : List (El sE))  (d0 : (ilt (icv .u64 (nlen (lenI m))) (tV m r0)) = false) (d1 : (ine (pR L15_0_o0) 0) = true) (L15_0_h0 : ((ilt (icv .u64 (nlen (lenI m))) (tV m r0)) = false) → (L15L m L15_0_fuel (iN m r0) (tV m r0) 0 []) = (some (L15_0_o0, L15_0_o1))) (s0 : (okS m r0) = true) : ACalls Tryd.prog 15 [AV.sw 0 1] [AObj.ints 0 false IntKind.u8 m] (AV.tup [AV.sw 1 6, AV.v (.int .i64 (pR L15_0_o0))]) [] [AObj.rows true sE []] :=
  ACalls.nb (res := AV.tup [AV.sw 1 6, AV.v (.int .i64 (pR L15_0_o0))]) (.of_out [Orc.call [1, 0] (AV.v (.int .u64 (tV m r0))) [(0, rdC (iN m r0))] [], Orc.br false, Orc.fin (Gh.nil 6 6 (AObj.rows true sE [])), Orc.loop [0, 2, 3, 4, 5, 6, 7] [0, 1, 2] (AExit.exit 0) (tg [(0, AV.sw 0 1), (1, AV.v (Value.slice none 0 0)), (0, AV.v (.int .i64 0)), (0, AV.ptr 1 0), (1, AV.sw 2 6)] 67) [AObj.ints 0 false IntKind.u8 m, AObj.cells 0 true [AV.sw 0 1, AV.v (.int .i64 (pA L15_0_o0)), AV.v (.int .i64 (pR L15_0_o0))], AObj.rows true sE L15_0_o1], Orc.br true, Orc.fin (Gh.nil 2 6 (AObj.rows true sE []))] [0, 3] [ACalls Tryd.prog 37 [AV.ptr 0 0, AV.v (.int .u64 18446744073709551615)] [AObj.cells 0 true [AV.sw 1 1, AV.v (.int .i64 0), AV.v (.int .i64 0)], AObj.ints 0 false IntKind.u8 m] (AV.v (.int .u64 (tV m r0))) [(0, rdC (iN m r0))] [], isB (ilt (icv .u64 (nlen (lenI m))) (tV m r0)) false, _, isB (ine (pR L15_0_o0) 0) true, Mixed Tryd.prog] Tryd.func15 (by kernel_rfl) (by kernel_rfl) (.cons (by apply k37z <;> (first | exact (s0))) (.cons d0 (.cons (L15 _ _ _ _ _ _ _ _ (L15_0_h0 d0)) (.cons d1 (.cons (by show _ = _; kernel_rfl) .nil))))))
theorem f15_3 (m : List Int) (L15_0_fuel : Nat) (L15_0_o0 : RS) (L15_0_o1 : List (El sE))  (d0 : (ilt (icv .u64 (nlen (lenI m))) (tV m r0)) = false) (d1 : (ine (pR L15_0_o0) 0) = false) (d2 : (ilt (pA L15_0_o0) (nlen (lenI m))) = true) (L15_0_h0 : ((ilt (icv .u64 (nlen (lenI m))) (tV m r0)) = false) → (L15L m L15_0_fuel (iN m r0) (tV m r0) 0 []) = (some (L15_0_o0, L15_0_o1))) (s0 : (okS m r0) = true) : ACalls Tryd.prog 15 [AV.sw 0 1] [AObj.ints 0 false IntKind.u8 m] (AV.tup [AV.sw 1 6, AV.v (.int .i64 4)]) [] [AObj.rows true sE []] :=
  ACalls.nb (res := AV.tup [AV.sw 1 6, AV.v (.int .i64 4)]) (.of_out [Orc.call [1, 0] (AV.v (.int .u64 (tV m r0))) [(0, rdC (iN m r0))] [], Orc.br false, Orc.fin (Gh.nil 6 6 (AObj.rows true sE [])), Orc.loop [0, 2, 3, 4, 5, 6, 7] [0, 1, 2] (AExit.exit 0) (tg [(0, AV.sw 0 1), (1, AV.v (Value.slice none 0 0)), (0, AV.v (.int .i64 0)), (0, AV.ptr 1 0), (1, AV.sw 2 6)] 67) [AObj.ints 0 false IntKind.u8 m, AObj.cells 0 true [AV.sw 0 1, AV.v (.int .i64 (pA L15_0_o0)), AV.v (.int .i64 (pR L15_0_o0))], AObj.rows true sE L15_0_o1], Orc.br false, Orc.br true, Orc.fin (Gh.nil 2 6 (AObj.rows true sE []))] [0, 3] [ACalls Tryd.prog 37 [AV.ptr 0 0, AV.v (.int .u64 18446744073709551615)] [AObj.cells 0 true [AV.sw 1 1, AV.v (.int .i64 0), AV.v (.int .i64 0)], AObj.ints 0 false IntKind.u8 m] (AV.v (.int .u64 (tV m r0))) [(0, rdC (iN m r0))] [], isB (ilt (icv .u64 (nlen (lenI m))) (tV m r0)) false, _, isB (ine (pR L15_0_o0) 0) false, isB (ilt (pA L15_0_o0) (nlen (lenI m))) true] Tryd.func15 (by kernel_rfl) (by kernel_rfl) (.cons (by apply k37z <;> (first | exact (s0))) (.cons d0 (.cons (L15 _ _ _ _ _ _ _ _ (L15_0_h0 d0)) (.cons d1 (.cons d2 .nil))))))
theorem f15_4 (m : List Int) (L15_0_fuel : Nat) (L15_0_o0 : RS) (L15_0_o1 : List (El sE))  (d0 : (ilt (icv .u64 (nlen (lenI m))) (tV m r0)) = false) (d1 : (ine (pR L15_0_o0) 0) = false) (d2 : (ilt (pA L15_0_o0) (nlen (lenI m))) = false) (L15_0_h0 : ((ilt (icv .u64 (nlen (lenI m))) (tV m r0)) = false) → (L15L m L15_0_fuel (iN m r0) (tV m r0) 0 []) = (some (L15_0_o0, L15_0_o1))) (s0 : (okS m r0) = true) : ACalls Tryd.prog 15 [AV.sw 0 1] [AObj.ints 0 false IntKind.u8 m] (AV.tup [AV.sw 1 6, AV.v (.int .i64 0)]) [] [AObj.rows true sE L15_0_o1] :=
  ACalls.nb (res := AV.tup [AV.sw 1 6, AV.v (.int .i64 0)]) (.of_out [Orc.call [1, 0] (AV.v (.int .u64 (tV m r0))) [(0, rdC (iN m r0))] [], Orc.br false, Orc.fin (Gh.nil 6 6 (AObj.rows true sE [])), Orc.loop [0, 2, 3, 4, 5, 6, 7] [0, 1, 2] (AExit.exit 0) (tg [(0, AV.sw 0 1), (1, AV.v (Value.slice none 0 0)), (0, AV.v (.int .i64 0)), (0, AV.ptr 1 0), (1, AV.sw 2 6)] 67) [AObj.ints 0 false IntKind.u8 m, AObj.cells 0 true [AV.sw 0 1, AV.v (.int .i64 (pA L15_0_o0)), AV.v (.int .i64 (pR L15_0_o0))], AObj.rows true sE L15_0_o1], Orc.br false, Orc.br false] [0, 2] [ACalls Tryd.prog 37 [AV.ptr 0 0, AV.v (.int .u64 18446744073709551615)] [AObj.cells 0 true [AV.sw 1 1, AV.v (.int .i64 0), AV.v (.int .i64 0)], AObj.ints 0 false IntKind.u8 m] (AV.v (.int .u64 (tV m r0))) [(0, rdC (iN m r0))] [], isB (ilt (icv .u64 (nlen (lenI m))) (tV m r0)) false, _, isB (ine (pR L15_0_o0) 0) false, isB (ilt (pA L15_0_o0) (nlen (lenI m))) false] Tryd.func15 (by kernel_rfl) (by kernel_rfl) (.cons (by apply k37z <;> (first | exact (s0))) (.cons d0 (.cons (L15 _ _ _ _ _ _ _ _ (L15_0_h0 d0)) (.cons d1 (.cons d2 .nil))))))
theorem f15 (m : List Int) (L15_0_fuel : Nat) (L15_0_o0 : RS) (L15_0_o1 : List (El sE)) (L15_0_h0 : ((ilt (icv .u64 (nlen (lenI m))) (tV m r0)) = false) → (L15L m L15_0_fuel (iN m r0) (tV m r0) 0 []) = (some (L15_0_o0, L15_0_o1))) (s0 : (okS m r0) = true) : ACalls Tryd.prog 15 [AV.sw 0 1] [AObj.ints 0 false IntKind.u8 m] (AV.tup [AV.sw 1 6, AV.v (.int .i64 (f15r0 m L15_0_fuel L15_0_o0 L15_0_o1))]) [] [AObj.rows true sE (f15r1 m L15_0_fuel L15_0_o0 L15_0_o1)] := by
  have h := (ACalls.cond (ilt (icv .u64 (nlen (lenI m))) (tV m r0)) (fun d0 => (f15_1 m d0 s0)) (fun d0 => (ACalls.cond (ine (pR L15_0_o0) 0) (fun d1 => (f15_2 m L15_0_fuel L15_0_o0 L15_0_o1 d0 d1 L15_0_h0 s0)) (fun d1 => (ACalls.cond (ilt (pA L15_0_o0) (nlen (lenI m))) (fun d2 => (f15_3 m L15_0_fuel L15_0_o0 L15_0_o1 d0 d1 d2 L15_0_h0 s0)) (fun d2 => (f15_4 m L15_0_fuel L15_0_o0 L15_0_o1 d0 d1 d2 L15_0_h0 s0)))))))
  simp only [c_int, c_bool, c_str, c_agg, c_tup, c_fn, c_ifc, c_sl, c_pe, c_ptr, c_rows, c_siter, c_consA, c_consU, c_consO, c_cells, c_ints, c_bools, c_strs, c_same] at h
  exact h
end Go.Proofs.YtnejcdinieaemaaDoor.Tr

set_option linter.all false
set_option maxRecDepth 100000
/- Decode: what both come to. -/
namespace Go.Proofs.YtnejcdinieaemaaDoor.Tr
open Go.Abs Go.Proofs.YtnejcdinieaemaaDoor.Code Go.Proofs.YtnejcdinieaemaaDoor.Code
theorem iN_ok {m : List Int} {s : RS} (h : okS m s = true) : okS m (iN m s) = true := by
  have h' : okC m s.a = true := h
  obtain ⟨q1, q2⟩ := okC_iff.1 h'
  have sp := num0_spec h'
  show okC m (upA m s.a s.r mxU) = true
  unfold upA
  cases hb : upOk m s.a s.r mxU with
  | false => exact h'
  | true =>
    have hb' : s.r = 0 ∧ (num0 m s.a).2.2 = 0 ∧ (num0 m s.a).1 ≤ mxU := of_decide_eq_true hb
    have := sp.2.2.2.1 hb'.2.1
    refine okC_iff.2 ⟨?_, q2⟩
    simp only [cond_true]
    omega
theorem iN_r {m : List Int} {s : RS} (h : pR s ≠ 0) : pR (iN m s) = pR s := by
  show upR m s.a s.r mxU = s.r
  have h : s.r ≠ 0 := h
  unfold upR; rw [if_pos h]
theorem okZ_of {m : List Int} {s : RS} (h : okS m s = true) : okZ m s = true := by
  unfold okZ; rw [Bool.and_eq_true]; exact ⟨h, upV_u64 h _ _⟩
def six (m : List Int) (s : RS) : RS := iN m (iN m (iN m (iN m (iN m (iN m s)))))
def sixE (m : List Int) (s : RS) : El sE := (iV m s, iV m (iN m s), iV m (iN m (iN m s)), iV m (iN m (iN m (iN m s))), iV m (iN m (iN m (iN m (iN m s)))), iV m (iN m (iN m (iN m (iN m (iN m s))))))
/-- the entries that are read, one by one, up to an error -/
def run (m : List Int) : Nat → RS → List (El sE) → RS × List (El sE)
  | 0, s, y => (s, y)
  | j + 1, s, y => if pR s = 0 then run m j (six m s) (y ++ [sixE m s]) else (s, y)
theorem six_ok {m : List Int} {s : RS} (h : okS m s = true) : okS m (six m s) = true := iN_ok (iN_ok (iN_ok (iN_ok (iN_ok (iN_ok h)))))
theorem run_stop {m : List Int} (j : Nat) {s : RS} (y : List (El sE)) (h : pR s ≠ 0) : run m j s y = (s, y) := by
  cases j with
  | zero => rfl
  | succ j => unfold run; rw [if_neg h]
theorem run_ok {m : List Int} : ∀ (j : Nat) {s : RS} (y : List (El sE)), okS m s = true → okS m (run m j s y).1 = true
  | 0, s, y, h => h
  | j + 1, s, y, h => by
    unfold run
    split
    · exact run_ok j _ (six_ok h)
    · exact h
theorem au1 (k : Nat) (h : k ≤ 5000) : iadd .u64 (k : Int) 1 = ((k + 1 : Nat) : Int) := by unfold iadd; rw [w_u64]; omega
theorem app_r (y : List (El sE)) (e : El sE) : appR sE y [e] = y ++ [e] := rfl
theorem fit_r {y : List (El sE)} {e : El sE} (h : y.length ≤ 5000) : fitN (addN (lenR sE y) (lenR sE [e])) 48 := by unfold fitN addN lenR; simp; omega
structure Oks (m : List Int) (s : RS) : Prop where
  a0 : okS m s = true
  a1 : okS m (iN m s) = true
  a2 : okS m (iN m (iN m s)) = true
  a3 : okS m (iN m (iN m (iN m s))) = true
  a4 : okS m (iN m (iN m (iN m (iN m s)))) = true
  a5 : okS m (iN m (iN m (iN m (iN m (iN m s))))) = true
theorem oks {m : List Int} {s : RS} (h : okS m s = true) : Oks m s := ⟨h, iN_ok h, iN_ok (iN_ok h), iN_ok (iN_ok (iN_ok h)), iN_ok (iN_ok (iN_ok (iN_ok h))), iN_ok (iN_ok (iN_ok (iN_ok (iN_ok h))))⟩
theorem l15 (m : List Int) (n : Nat) (hn : n ≤ 5000) : ∀ (j k : Nat) (s : RS) (y : List (El sE)), k + j = n → okS m s = true → y.length ≤ k → L15L m (j + 1) s (n : Int) (k : Int) y = some (run m j s y)
  | 0, k, s, y, h, hs, hy => by
    have e0 : ilt (k : Int) (n : Int) = false := by rw [ilt_d]; simp; omega
    rw [L15LK]; unfold L15B; rw [e0]; rfl
  | j + 1, k, s, y, h, hs, hy => by
    have e0 : ilt (k : Int) (n : Int) = true := by rw [ilt_d]; simp; omega
    rw [L15LK]; unfold L15B run
    by_cases hr : pR s = 0
    · have H := oks hs
      have e1 : ieq (pR s) 0 = true := by rw [ieq_d, hr]; rfl
      simp only [e0, e1, cond_true, H.a0, H.a1, H.a2, H.a3, H.a4, H.a5, okZ_of H.a0, okZ_of H.a1, okZ_of H.a2, okZ_of H.a3, okZ_of H.a4, okZ_of H.a5, decide_true, decide_eq_true (fit_r (y := y) (by omega)), au1 k (by omega), app_r, if_pos hr]
      exact l15 m n hn j (k + 1) (six m s) (y ++ [sixE m s]) (by omega) (six_ok hs) (by simp; omega)
    · have e1 : ieq (pR s) 0 = false := by rw [ieq_d]; simpa using hr
      rw [e0, e1, if_neg hr]; rfl
theorem l14 (w : Bool) (m : List Int) (n : Nat) (hn : n ≤ 5000) : ∀ (j k : Nat) (s : RS) (y : List (El sE)), k + j = n → okS m s = true → y.length ≤ k → (pR s = 0 ∨ j = 0) →
    L14L w m (j + 1) s (n : Int) (k : Int) y = some (1, default, 0, [], (run m j s y).1, (run m j s y).2) ∨
      (pR (run m j s y).1 ≠ 0 ∧ L14L w m (j + 1) s (n : Int) (k : Int) y = some (0, (run m j s y).1, pR (run m j s y).1, (run m j s y).2, default, []))
  | 0, k, s, y, h, hs, hy, hp => by
    have e0 : ilt (k : Int) (n : Int) = false := by rw [ilt_d]; simp; omega
    left
    rw [L14LK]; unfold L14B; rw [e0]; rfl
  | j + 1, k, s, y, h, hs, hy, hp => by
    have e0 : ilt (k : Int) (n : Int) = true := by rw [ilt_d]; simp; omega
    have hr : pR s = 0 := hp.resolve_right (by omega)
    have H := oks hs
    have e2 : run m (j + 1) s y = run m j (six m s) (y ++ [sixE m s]) := by rw [run, if_pos hr]
    rw [L14LK, e2]; unfold L14B
    by_cases hq : pR (six m s) = 0
    · have e1 : ine (pR (iN m (iN m (iN m (iN m (iN m (iN m s))))))) 0 = false := by rw [ine_d]; have hq : pR (iN m (iN m (iN m (iN m (iN m (iN m s)))))) = 0 := hq; simpa using hq
      simp only [e0, e1, cond_true, cond_false, H.a0, H.a1, H.a2, H.a3, H.a4, H.a5, decide_true, decide_eq_true (fit_r (y := y) (by omega)), au1 k (by omega), app_r]
      exact l14 w m n hn j (k + 1) (six m s) (y ++ [sixE m s]) (by omega) (six_ok hs) (by simp; omega) (.inl hq)
    · have e1 : ine (pR (iN m (iN m (iN m (iN m (iN m (iN m s))))))) 0 = true := by rw [ine_d]; have hq : pR (iN m (iN m (iN m (iN m (iN m (iN m s)))))) ≠ 0 := hq; simpa using hq
      right
      rw [run_stop j _ hq]
      refine ⟨hq, ?_⟩
      simp only [e0, e1, cond_true, H.a0, H.a1, H.a2, H.a3, H.a4, H.a5, decide_true, decide_eq_true (fit_r (y := y) (by omega)), app_r]
      rfl
/-- what is decoded: error, entries -/
def dR (m : List Int) : RS × List (El sE) := run m (tV m r0).toNat (iN m r0) []
def dE (m : List Int) : Int := if (m.length : Int) < tV m r0 then 5 else if pR (dR m).1 ≠ 0 then pR (dR m).1 else if pA (dR m).1 < m.length then 4 else 0
def dL (m : List Int) : List (El sE) := if dE m = 0 then (dR m).2 else []
def byM (m : List Int) : Bool := decide (m.length ≤ 5000) && byB m
theorem dE_5 {m : List Int} (h : (m.length : Int) < tV m r0) : dE m = 5 := by unfold dE; rw [if_pos h]
section
variable {m : List Int} (hm : byM m = true)
include hm
theorem ok_r0 : okS m r0 = true := by
  unfold byM at hm; rw [Bool.and_eq_true, decide_eq_true_eq] at hm
  exact okC_iff.2 ⟨⟨Int.le_refl _, Int.natCast_nonneg _, by omega⟩, hm.2⟩
theorem len_m : m.length ≤ 5000 := by unfold byM at hm; rw [Bool.and_eq_true, decide_eq_true_eq] at hm; exact hm.1
theorem t_nn : 0 ≤ tV m r0 := (u64B_iff.1 (upV_u64 (ok_r0 hm) _ _)).1
theorem icm : icv .u64 (nlen (lenI m)) = (m.length : Int) := by have := len_m hm; unfold icv nlen lenI; rw [w_u64]; omega
theorem t_zero (h : pR (iN m r0) ≠ 0) : tV m r0 = 0 := by
  have h : upR m 0 0 mxU ≠ 0 := h
  show upV m 0 0 mxU = 0
  unfold upR at h
  unfold upV upOk
  by_cases c1 : (num0 m 0).2.2 = 0
  · by_cases c2 : (num0 m 0).1 ≤ mxU
    · simp [c1, c2] at h
    · rw [decide_eq_false (by rintro ⟨-, -, h3⟩; exact c2 h3)]; rfl
  · rw [decide_eq_false (by rintro ⟨-, h3, -⟩; exact c1 h3)]; rfl
theorem lf_eq (s : RS) (h : pR s = 0) : ilt 0 (lfS m s) = ilt (pA s) (nlen (lenI m)) := by
  have h : s.r = 0 := h
  rw [ilt_d, ilt_d]
  show decide (0 < lefC m s.a s.r) = decide (s.a < (m.length : Int))
  unfold lefC
  rw [if_pos h]
  exact decide_eq_decide.2 (by omega)
theorem c15 : ACalls Tryd.prog 15 [AV.sw 0 1] [AObj.ints 0 false .u8 m] (AV.tup [AV.sw 1 6, AV.v (.int .i64 (dE m))]) [] [AObj.rows true sE (dL m)] := by
  have hl := len_m hm
  have ht := t_nn hm
  have h := f15 m ((tV m r0).toNat + 1) (dR m).1 (dR m).2 (fun e => by
      rw [icm hm, ilt_d, decide_eq_false_iff_not] at e
      have := l15 m (tV m r0).toNat (by omega) (tV m r0).toNat 0 (iN m r0) [] (by omega) (iN_ok (ok_r0 hm)) (by simp)
      rw [show (((tV m r0).toNat : Nat) : Int) = tV m r0 by omega] at this
      exact this) (ok_r0 hm)
  have e0 : f15r0 m ((tV m r0).toNat + 1) (dR m).1 (dR m).2 = dE m := by
    unfold f15r0 dE
    rw [icm hm, cond_if, cond_if, cond_if]
    simp only [ilt_d, ine_d, decide_eq_true_eq, nlen, lenI]
  have e1 : f15r1 m ((tV m r0).toNat + 1) (dR m).1 (dR m).2 = dL m := by
    unfold f15r1 dL dE
    rw [icm hm, cond_if, cond_if, cond_if]
    simp only [ilt_d, ine_d, decide_eq_true_eq, nlen, lenI]
    by_cases a1 : (m.length : Int) < tV m r0
    · simp [a1]
    · by_cases a2 : pR (dR m).1 = 0
      · by_cases a3 : pA (dR m).1 < (m.length : Int) <;> simp [a1, a2, a3]
      · simp [a1, a2]
  rw [e0, e1] at h; exact h
theorem c14 (w : Bool) : ACalls Tryd.prog 14 [AV.sw 0 1] [AObj.ints 0 w .u8 m] (AV.tup [AV.sw 1 6, AV.v (.int .i64 (dE m))]) [] [AObj.rows true sE (dL m)] := by
  have hl := len_m hm
  have ht := t_nn hm
  have hfit : fitN (lenI m) 1 := by unfold fitN lenI; omega
  have hrok : okS m (dR m).1 = true := run_ok _ _ (iN_ok (ok_r0 hm))
  by_cases a1 : (m.length : Int) < tV m r0
  · have h := f14 w m 0 0 default 0 [] 0 default [] (fun e => by rw [icm hm, ilt_d, decide_eq_false_iff_not] at e; exact (e a1).elim) (fun e => by rw [icm hm, ilt_d, decide_eq_false_iff_not] at e; exact (e a1).elim) hfit (ok_r0 hm) (fun e => by rw [icm hm, ilt_d, decide_eq_false_iff_not] at e; exact (e a1).elim)
    have e0 : f14r0 w m 0 0 default 0 [] 0 default [] = dE m := by unfold f14r0; rw [icm hm, ilt_d, decide_eq_true a1, dE_5 a1]; rfl
    have e1 : f14r1 w m 0 0 default 0 [] 0 default [] = dL m := by unfold f14r1 dL; rw [icm hm, ilt_d, decide_eq_true a1, dE_5 a1]; rfl
    rw [e0, e1] at h; exact h
  · have hs : pR (iN m r0) = 0 ∨ (tV m r0).toNat = 0 := by
      by_cases q : pR (iN m r0) = 0
      · exact .inl q
      · right; rw [t_zero hm q]; rfl
    have tn : (((tV m r0).toNat : Nat) : Int) = tV m r0 := by omega
    rcases l14 w m (tV m r0).toNat (by omega) (tV m r0).toNat 0 (iN m r0) [] (by omega) (iN_ok (ok_r0 hm)) (by simp) hs with h1 | ⟨hp, h1⟩
    · rw [tn] at h1
      have h := f14 w m 1 0 default 0 [] ((tV m r0).toNat + 1) (dR m).1 (dR m).2 (fun _ e => by cases e) (fun _ _ => h1) hfit (ok_r0 hm) (fun _ _ _ => hrok)
      have e0 : f14r0 w m 1 0 default 0 [] ((tV m r0).toNat + 1) (dR m).1 (dR m).2 = dE m := by
        unfold f14r0 dE
        rw [icm hm, ilt_d, decide_eq_false a1, if_neg a1]
        by_cases a2 : pR (dR m).1 = 0
        · rw [lf_eq hm _ a2, cond_if, cond_if, cond_if, cond_if]; simp [ilt_d, ine_d, a2, nlen, lenI]
        · simp [ine_d, a2]; rfl
      have e1 : f14r1 w m 1 0 default 0 [] ((tV m r0).toNat + 1) (dR m).1 (dR m).2 = dL m := by
        unfold f14r1 dL dE
        rw [icm hm, ilt_d, decide_eq_false a1, if_neg a1]
        by_cases a2 : pR (dR m).1 = 0
        · rw [lf_eq hm _ a2, ilt_d]
          by_cases a3 : pA (dR m).1 < (m.length : Int)
          · simp [ine_d, a2, a3, nlen, lenI]
          · simp [ine_d, a2, a3, nlen, lenI]; rfl
        · simp [ine_d, a2]
      rw [e0, e1] at h; exact h
    · rw [tn] at h1
      have h := f14 w m 0 ((tV m r0).toNat + 1) (dR m).1 (pR (dR m).1) (dR m).2 0 default [] (fun _ _ => h1) (fun _ e => by cases e) hfit (ok_r0 hm) (fun _ e => by cases e)
      have hp : pR (dR m).1 ≠ 0 := hp
      have e0 : f14r0 w m 0 ((tV m r0).toNat + 1) (dR m).1 (pR (dR m).1) (dR m).2 0 default [] = dE m := by
        unfold f14r0 dE
        rw [icm hm, ilt_d, decide_eq_false a1, if_neg a1, if_pos hp]; rfl
      have e1 : f14r1 w m 0 ((tV m r0).toNat + 1) (dR m).1 (pR (dR m).1) (dR m).2 0 default [] = dL m := by
        unfold f14r1 dL dE
        rw [icm hm, ilt_d, decide_eq_false a1, if_neg a1, if_pos hp, if_neg hp]; rfl
      rw [e0, e1] at h; exact h
end
end Go.Proofs.YtnejcdinieaemaaDoor.Tr

set_option maxRecDepth 100000
set_option linter.all false
set_option maxHeartbeats 4000000
set_option linter.unusedSimpArgs false
set_option linter.unusedVariables false
namespace Go.Proofs.YtnejcdinieaemaaDoor.Tr
open Go.Abs Go.Proofs.YtnejcdinieaemaaDoor.Code Go.Proofs.YtnejcdinieaemaaDoor.Code
def L18S (w : Bool) (v : Bool) (l : List (El sE)) (x5 : Int) : Tm := (tg [(0, AV.sw 0 6), (0, AV.sw 1 6), (2, AV.v (Value.bool false)), (0, AV.v (.int .i64 x5))] 20)
def L18H (w : Bool) (v : Bool) (l : List (El sE)) (x5 : Int) : List AObj := [AObj.rows w sE l, AObj.rows v sE l]
def L18T (w : Bool) (v : Bool) (l : List (El sE)) : Tm := (tg [(4, AV.v (Value.bool false))] 21)
def L18U (w : Bool) (v : Bool) (l : List (El sE)) : List AObj := [AObj.rows w sE l, AObj.rows v sE l]
theorem L18_1 (w : Bool) (v : Bool) (l : List (El sE)) (x5 : Int)  (d0 : (ilt x5 (nlen (lenR sE l))) = true) (s0 : inB x5 (lenR sE l)) (s1 : ltN (idxN 0 x5) (lenR sE l)) {e : AExit} {tm2 : Tm} {h2 : List AObj} (b : ARun Tryd.prog 2 (.loop (lp Tryd.f18 0)) (L18S w v l  (iadd .i64 x5 1)) (L18H w v l  (iadd .i64 x5 1)) e tm2 h2) : ARun Tryd.prog 2 (.loop (lp Tryd.f18 0)) (L18S w v l  x5) (L18H w v l  x5) e tm2 h2 :=
  .round [Orc.br true, Orc.br false] [0, 1, 4, 5] [0, 1] [isB (ilt x5 (nlen (lenR sE l))) true, Mixed Tryd.prog, inB x5 (lenR sE l), ltN (idxN 0 x5) (lenR sE l), inB x5 (lenR sE l), ltN (idxN 0 x5) (lenR sE l), isB (notB (andB (ieq ((getR sE l (idxN 0 x5)).1) ((getR sE l (idxN 0 x5)).1)) (andB (ieq (((getR sE l (idxN 0 x5)).2).1) (((getR sE l (idxN 0 x5)).2).1)) (andB (ieq ((((getR sE l (idxN 0 x5)).2).2).1) ((((getR sE l (idxN 0 x5)).2).2).1)) (andB (ieq (((((getR sE l (idxN 0 x5)).2).2).2).1) (((((getR sE l (idxN 0 x5)).2).2).2).1)) (andB (ieq ((((((getR sE l (idxN 0 x5)).2).2).2).2).1) ((((((getR sE l (idxN 0 x5)).2).2).2).2).1)) (ieq ((((((getR sE l (idxN 0 x5)).2).2).2).2).2) ((((((getR sE l (idxN 0 x5)).2).2).2).2).2)))))))) false] (by kernel_rfl) (.cons d0 (.cons (by show _ = _; kernel_rfl) (.cons (s0) (.cons (s1) (.cons (s0) (.cons (s1) (.cons (rf_not (rf_and (rf_ieq _) (rf_and (rf_ieq _) (rf_and (rf_ieq _) (rf_and (rf_ieq _) (rf_and (rf_ieq _) (rf_ieq _))))))) .nil))))))) b
theorem L18_2 (w : Bool) (v : Bool) (l : List (El sE)) (x5 : Int)  (d0 : (ilt x5 (nlen (lenR sE l))) = false) : ARun Tryd.prog 2 (.loop (lp Tryd.f18 0)) (L18S w v l  x5) (L18H w v l  x5) (AExit.exit 0) (L18T w v l ) (L18U w v l ) :=
  .last [Orc.br false] [4] [0, 1] [isB (ilt x5 (nlen (lenR sE l))) false] (by kernel_rfl) (.cons d0 .nil)
def L18B (w : Bool) (v : Bool) (l : List (El sE)) (x5 : Int) : Option (((Int)) ⊕ (Unit)) := (bif ilt x5 (nlen (lenR sE l)) then bif decide (inB x5 (lenR sE l)) then bif decide (ltN (idxN 0 x5) (lenR sE l)) then some (.inl (iadd .i64 x5 1)) else none else none else some (.inr ()))
def L18L (w : Bool) (v : Bool) (l : List (El sE)) : Nat → Int → Option (Unit)
  | 0, _ => none
  | fuel + 1, x5 => match L18B w v l  x5 with
    | none => none
    | some (.inl s) => L18L w v l fuel s
    | some (.inr o) => some o
def L18K (w : Bool) (v : Bool) (l : List (El sE)) (fuel : Nat) : Option (((Int)) ⊕ (Unit)) → Option (Unit)
  | none => none
  | some (.inl s) => L18L w v l fuel s
  | some (.inr o) => some o
theorem L18LK (w : Bool) (v : Bool) (l : List (El sE)) (fuel : Nat) (x5 : Int) : L18L w v l (fuel + 1)  x5 = L18K w v l fuel (L18B w v l  x5) := by
  rw [L18L]; cases L18B w v l  x5 with
  | none => rfl
  | some v => cases v <;> rfl
theorem L18P (w : Bool) (v : Bool) (l : List (El sE)) (fuel : Nat) (ih : ∀ (x5 : Int) (_ : L18L w v l fuel  x5 = some ()), ARun Tryd.prog 2 (.loop (lp Tryd.f18 0)) (L18S w v l  x5) (L18H w v l  x5) (AExit.exit 0) (L18T w v l ) (L18U w v l )) (x5 : Int) (h : L18K w v l fuel (L18B w v l  x5) = some ()) : ARun Tryd.prog 2 (.loop (lp Tryd.f18 0)) (L18S w v l  x5) (L18H w v l  x5) (AExit.exit 0) (L18T w v l ) (L18U w v l ) := by
  unfold L18B at h
  exact (splitK h (fun d0 h => (chkK rfl h (fun s0 h => chkK rfl h (fun s1 h => L18_1 w v l  x5 d0 s0 s1 (ih (iadd .i64 x5 1)  h))))) (fun d0 h => ((by cases h; exact L18_2 w v l  x5 d0))))
theorem L18 (w : Bool) (v : Bool) (l : List (El sE)) : ∀ (fuel : Nat) (x5 : Int) (_ : L18L w v l  fuel  x5 = some ()), ARun Tryd.prog 2 (.loop (lp Tryd.f18 0)) (L18S w v l  x5) (L18H w v l  x5) (AExit.exit 0) (L18T w v l ) (L18U w v l )
  | 0, _, h => by cases h
  | fuel + 1, x5, h => L18P w v l fuel (L18 w v l fuel)  x5  (by rw [L18LK] at h; exact h)
theorem f18_1 (w : Bool) (v : Bool) (l : List (El sE)) (L18_0_fuel : Nat)  (L18_0_h0 : (L18L w v l L18_0_fuel 0) = (some Unit.unit)) : ACalls Tryd.prog 18 [AV.sw 0 6, AV.sw 1 6] [AObj.rows w sE l, AObj.rows v sE l] (AV.v (Value.bool true)) [] [] :=
  ACalls.nb (res := AV.v (Value.bool true)) (.of_out [Orc.br false, Orc.loop [0, 1, 4, 5] [0, 1] (AExit.exit 0) (tg [(4, AV.v (Value.bool false))] 21) [AObj.rows w sE l, AObj.rows v sE l]] [0, 1] [isB (ine (nlen (lenR sE l)) (nlen (lenR sE l))) false, _] Tryd.func18 (by kernel_rfl) (by kernel_rfl) (.cons (rf_ine _) (.cons (L18 _ _ _ _ _ (L18_0_h0)) .nil)))
theorem f18 (w : Bool) (v : Bool) (l : List (El sE)) (L18_0_fuel : Nat) (L18_0_h0 : (L18L w v l L18_0_fuel 0) = (some Unit.unit)) : ACalls Tryd.prog 18 [AV.sw 0 6, AV.sw 1 6] [AObj.rows w sE l, AObj.rows v sE l] (AV.v (Value.bool true)) [] [] := (f18_1 w v l L18_0_fuel L18_0_h0)
theorem l18 (w v : Bool) (l : List (El sE)) (hn : l.length ≤ 2000) : ∀ (j i : Nat), i + j = l.length → L18L w v l (j + 1) (i : Int) = some ()
  | 0, i, h => by
    have e0 : ilt (i : Int) (nlen (lenR sE l)) = false := by rw [ilt_d]; unfold nlen lenR; simp; omega
    rw [L18LK]; unfold L18B; rw [e0]; rfl
  | j + 1, i, h => by
    have e0 : ilt (i : Int) (nlen (lenR sE l)) = true := by rw [ilt_d]; unfold nlen lenR; simp; omega
    have e1 : inB (i : Int) (lenR sE l) := by unfold inB lenR; omega
    have e2 : ltN (idxN 0 (i : Int)) (lenR sE l) := by unfold ltN idxN lenR; omega
    have e3 : iadd .i64 (i : Int) 1 = ((i + 1 : Nat) : Int) := by unfold iadd; rw [w_i64_in (by omega)]; omega
    rw [L18LK]; unfold L18B; simp only [e0, decide_eq_true e1, decide_eq_true e2, cond_true, e3]
    exact l18 w v l hn j (i + 1) (by omega)
def smR (l : List (El sE)) : Bool := decide (l.length ≤ 2000)
theorem g18 (w v : Bool) (l : List (El sE)) (h : smR l = true) : ACalls Tryd.prog 18 [AV.sw 0 6, AV.sw 1 6] [AObj.rows w sE l, AObj.rows v sE l] (AV.v (Value.bool true)) [] [] :=
  f18 w v l (l.length + 1) (l18 w v l (of_decide_eq_true h) l.length 0 (by omega))
end Go.Proofs.YtnejcdinieaemaaDoor.Tr
