import Derived.Test.YtnejcdinieaemaaDoorAbsO
import Derived.Test.YtnejcdinieaemaaDoorTzD
import Derived.Test.YtnejcdinieaemaaDoorAbsWg
import Derived.Test.YtnejcdinieaemaaDoorAbsWx
set_option maxRecDepth 100000
set_option linter.all false
set_option maxHeartbeats 4000000
set_option linter.unusedSimpArgs false
set_option linter.unusedVariables false
namespace Go.Proofs.YtnejcdinieaemaaDoor.Tr
open Go.Abs Go.Proofs.YtnejcdinieaemaaDoor.Code Go.Proofs.YtnejcdinieaemaaDoor.Code
def winE (l : List (El sE)) (off n : Nat) : List (El sE) := subR sE l off n
def winB (b : List Int) (off n : Nat) : List Int := subI b off n
theorem flat_rows (w : Bool) (s : List CK) (l : List (El s)) : Flat (.rows w s l) := fun _ _ => ⟨rfl, trivial⟩
theorem flat_ints (t : TypeId) (w : Bool) (k : IntKind) (l : List Int) : Flat (.ints t w k l) := fun _ _ => ⟨rfl, trivial⟩
theorem tail_sw (s : Nat) : Tail1 (.sw 1 s) := fun σ σ' h => by
  have := h 1 (by omega)
  refine ⟨fun hw => ⟨this.1 hw.1, hw.2⟩, ?_⟩
  simp only [den]; rw [this.2]
theorem tail_tup (s : Nat) (v : Value) : Tail1 (.tup [.sw 1 s, .v v]) := fun σ σ' h => by
  have := h 1 (by omega)
  refine ⟨fun hw => ⟨⟨this.1 hw.1.1, hw.1.2⟩, trivial, trivial⟩, ?_⟩
  simp only [den, denL]; rw [this.2]
theorem k16 (l : List (El sE)) (z off n : Nat) (h0 : leN (off + n) (lenR sE l)) (h : okL (winE l off n) = true) : ACalls Tryd.prog 16 [AV.sl 0 6 z off n none] [AObj.rows false sE l] (AV.sw 1 1) [] [AObj.ints 0 true IntKind.u8 (encL (winE l off n))] :=
  .win1 rfl rfl ⟨h0, trivial⟩ (flat_rows _ _ _) (tail_sw 1) (fun x hx => by rw [List.mem_singleton.1 hx]; exact flat_ints _ _ _ _) (g16 false (winE l off n) h)
theorem k17 (l : List (El sE)) (z off n : Nat) (h0 : leN (off + n) (lenR sE l)) (h : okL (winE l off n) = true) : ACalls Tryd.prog 17 [AV.sl 0 6 z off n none] [AObj.rows false sE l] (AV.sw 1 1) [] [AObj.ints 0 true IntKind.u8 (encL (winE l off n))] :=
  .win1 rfl rfl ⟨h0, trivial⟩ (flat_rows _ _ _) (tail_sw 1) (fun x hx => by rw [List.mem_singleton.1 hx]; exact flat_ints _ _ _ _) (g17 false (winE l off n) h)
theorem k14 (b : List Int) (z off n : Nat) (h0 : leN (off + n) (lenI b)) (h : byM (winB b off n) = true) : ACalls Tryd.prog 14 [AV.sl 0 1 z off n none] [AObj.ints 0 false .u8 b] (AV.tup [AV.sw 1 6, AV.v (.int .i64 (dE (winB b off n)))]) [] [AObj.rows true sE (dL (winB b off n))] :=
  .win1 rfl rfl ⟨h0, trivial⟩ (flat_ints _ _ _ _) (tail_tup 6 _) (fun x hx => by rw [List.mem_singleton.1 hx]; exact flat_rows _ _ _) (c14 h false)
theorem k15 (b : List Int) (z off n : Nat) (h0 : leN (off + n) (lenI b)) (h : byM (winB b off n) = true) : ACalls Tryd.prog 15 [AV.sl 0 1 z off n none] [AObj.ints 0 false .u8 b] (AV.tup [AV.sw 1 6, AV.v (.int .i64 (dE (winB b off n)))]) [] [AObj.rows true sE (dL (winB b off n))] :=
  .win1 rfl rfl ⟨h0, trivial⟩ (flat_ints _ _ _ _) (tail_tup 6 _) (fun x hx => by rw [List.mem_singleton.1 hx]; exact flat_rows _ _ _) (c15 h)
theorem f4_1 (l : List (El sE)) (b : List Int)  (s0 : inC 0 (imin (nlen (lenR sE l)) 40) (nlen (lenR sE l))) (s1 : inC 0 (imin (nlen (lenI b)) 500) (nlen (lenI b))) (s2 : leN (0 + (subN (imin (nlen (lenI b)) 500) 0)) (lenI b)) (s3 : (byM (winB b 0 (subN (imin (nlen (lenI b)) 500) 0))) = true) (s4 : leN (0 + (subN (imin (nlen (lenR sE l)) 40) 0)) (lenR sE l)) (s5 : (okL (winE l 0 (subN (imin (nlen (lenR sE l)) 40) 0))) = true) (s6 : (smR (dL (winB b 0 (subN (imin (nlen (lenI b)) 500) 0)))) = true) : ACalls Tryd.prog 4 [AV.sl 0 6 0 0 (lenR sE l) none, AV.sl 1 1 0 0 (lenI b) none] [AObj.rows false sE l, AObj.ints 0 false IntKind.u8 b] (AV.v (Value.bool true)) [] [] :=
  ACalls.nb (res := AV.v (Value.bool true)) (.of_out [Orc.call [1] (AV.tup [AV.sw 1 6, AV.v (.int .i64 (dE (winB b 0 (subN (imin (nlen (lenI b)) 500) 0))))]) [] [AObj.rows true sE (dL (winB b 0 (subN (imin (nlen (lenI b)) 500) 0)))], Orc.call [1] (AV.tup [AV.sw 1 6, AV.v (.int .i64 (dE (winB b 0 (subN (imin (nlen (lenI b)) 500) 0))))]) [] [AObj.rows true sE (dL (winB b 0 (subN (imin (nlen (lenI b)) 500) 0)))], Orc.call [0] (AV.sw 1 1) [] [AObj.ints 0 true IntKind.u8 (encL (winE l 0 (subN (imin (nlen (lenR sE l)) 40) 0)))], Orc.call [0] (AV.sw 1 1) [] [AObj.ints 0 true IntKind.u8 (encL (winE l 0 (subN (imin (nlen (lenR sE l)) 40) 0)))], Orc.br true, Orc.call [2, 3] (AV.v (Value.bool true)) [] [], Orc.br true, Orc.br true, Orc.call [] (AV.v (Value.bool true)) [] []] [0, 1] [Mixed Tryd.prog, inC 0 (imin (nlen (lenR sE l)) 40) (nlen (lenR sE l)), inC 0 (imin (nlen (lenI b)) 500) (nlen (lenI b)), ACalls Tryd.prog 14 [AV.sl 0 1 0 0 (subN (imin (nlen (lenI b)) 500) 0) none] [AObj.ints 0 false IntKind.u8 b] (AV.tup [AV.sw 1 6, AV.v (.int .i64 (dE (winB b 0 (subN (imin (nlen (lenI b)) 500) 0))))]) [] [AObj.rows true sE (dL (winB b 0 (subN (imin (nlen (lenI b)) 500) 0)))], ACalls Tryd.prog 15 [AV.sl 0 1 0 0 (subN (imin (nlen (lenI b)) 500) 0) none] [AObj.ints 0 false IntKind.u8 b] (AV.tup [AV.sw 1 6, AV.v (.int .i64 (dE (winB b 0 (subN (imin (nlen (lenI b)) 500) 0))))]) [] [AObj.rows true sE (dL (winB b 0 (subN (imin (nlen (lenI b)) 500) 0)))], Mixed Tryd.prog, ACalls Tryd.prog 16 [AV.sl 0 6 0 0 (subN (imin (nlen (lenR sE l)) 40) 0) none] [AObj.rows false sE l] (AV.sw 1 1) [] [AObj.ints 0 true IntKind.u8 (encL (winE l 0 (subN (imin (nlen (lenR sE l)) 40) 0)))], ACalls Tryd.prog 17 [AV.sl 0 6 0 0 (subN (imin (nlen (lenR sE l)) 40) 0) none] [AObj.rows false sE l] (AV.sw 1 1) [] [AObj.ints 0 true IntKind.u8 (encL (winE l 0 (subN (imin (nlen (lenR sE l)) 40) 0)))], isB (seqS (strI (encL (winE l 0 (subN (imin (nlen (lenR sE l)) 40) 0)))) (strI (encL (winE l 0 (subN (imin (nlen (lenR sE l)) 40) 0))))) true, ACalls Tryd.prog 18 [AV.sw 0 6, AV.sw 1 6] [AObj.rows true sE (dL (winB b 0 (subN (imin (nlen (lenI b)) 500) 0))), AObj.rows true sE (dL (winB b 0 (subN (imin (nlen (lenI b)) 500) 0)))] (AV.v (Value.bool true)) [] [], isB true true, isB (ieq (dE (winB b 0 (subN (imin (nlen (lenI b)) 500) 0))) (dE (winB b 0 (subN (imin (nlen (lenI b)) 500) 0)))) true, ACalls Tryd.prog 13 [] [] (AV.v (Value.bool true)) [] []] Tryd.func4 (by kernel_rfl) (by kernel_rfl) (.cons (by show _ = _; kernel_rfl) (.cons (s0) (.cons (s1) (.cons (by apply k14 <;> (first | exact (s2) | exact (s3))) (.cons (by apply k15 <;> (first | exact (s2) | exact (s3))) (.cons (by show _ = _; kernel_rfl) (.cons (by apply k16 <;> (first | exact (s4) | exact (s5))) (.cons (by apply k17 <;> (first | exact (s4) | exact (s5))) (.cons (rf_seqS _) (.cons (by apply g18 <;> (first | exact (s6))) (.cons (by show _ = _; kernel_rfl) (.cons (rf_ieq _) (.cons (by apply f13) .nil))))))))))))))
theorem f4 (l : List (El sE)) (b : List Int) (s0 : inC 0 (imin (nlen (lenR sE l)) 40) (nlen (lenR sE l))) (s1 : inC 0 (imin (nlen (lenI b)) 500) (nlen (lenI b))) (s2 : leN (0 + (subN (imin (nlen (lenI b)) 500) 0)) (lenI b)) (s3 : (byM (winB b 0 (subN (imin (nlen (lenI b)) 500) 0))) = true) (s4 : leN (0 + (subN (imin (nlen (lenR sE l)) 40) 0)) (lenR sE l)) (s5 : (okL (winE l 0 (subN (imin (nlen (lenR sE l)) 40) 0))) = true) (s6 : (smR (dL (winB b 0 (subN (imin (nlen (lenI b)) 500) 0)))) = true) : ACalls Tryd.prog 4 [AV.sl 0 6 0 0 (lenR sE l) none, AV.sl 1 1 0 0 (lenI b) none] [AObj.rows false sE l, AObj.ints 0 false IntKind.u8 b] (AV.v (Value.bool true)) [] [] := (f4_1 l b s0 s1 s2 s3 s4 s5 s6)
end Go.Proofs.YtnejcdinieaemaaDoor.Tr

set_option linter.all false
set_option maxRecDepth 100000
/- TraceCodes: the law. -/
namespace Go.Proofs.YtnejcdinieaemaaDoor.Tr
open Go.Abs Go.Proofs.YtnejcdinieaemaaDoor.Code Go.Proofs.YtnejcdinieaemaaDoor.Code
theorem run_len (m : List Int) : ∀ (j : Nat) (s : RS) (y : List (El sE)), (run m j s y).2.length ≤ j + y.length
  | 0, s, y => by show y.length ≤ _; omega
  | j + 1, s, y => by
    unfold run
    split
    · have := run_len m j (six m s) (y ++ [sixE m s]); simp at this; omega
    · show y.length ≤ _; omega
theorem dL_len (m : List Int) : (dL m).length ≤ m.length := by
  unfold dL
  split
  · rename_i h
    have h1 : ¬ (m.length : Int) < tV m r0 := fun hlt => by rw [dE_5 hlt] at h; omega
    have := run_len m (tV m r0).toNat (iN m r0) []
    have e : (dR m).2 = (run m (tV m r0).toNat (iN m r0) []).2 := rfl
    rw [e]; simp at this; omega
  · simp
theorem wfB {x : Int} (h : (Lit.int .i64 x).wf = true) : i64B x = true := i64B_iff.2 (wf_i64' h)
theorem law_traceCodes (l : List (El sE)) (b : List Int) (w0 : ∀ x ∈ l, El.ok sE x) (w1 : ∀ y ∈ b, El.ok (PS.int .u8).ck y) : ACalls Tryd.prog 4 [AV.sw 0 6, AV.sw 1 1] [AObj.rows false sE l, AObj.ints 0 false IntKind.u8 b] (AV.v (Value.bool true)) [] [] := by
  have hl : ∀ e ∈ l, okE e = true := fun e he => by
    obtain ⟨h1, h2, h3, h4, h5, h6⟩ := w0 e he
    unfold okE
    rw [wfB h1, wfB h2, wfB h3, wfB h4, wfB h5, wfB h6]; rfl
  have hb : ∀ y ∈ b, 0 ≤ y ∧ y ≤ 255 := fun y hy => wf_u8' (w1 y hy)
  have n0 : subN (imin (nlen (lenR sE l)) 40) 0 = min l.length 40 := by unfold subN imin nlen lenR; omega
  have n1 : subN (imin (nlen (lenI b)) 500) 0 = min b.length 500 := by unfold subN imin nlen lenI; omega
  have e0 : winE l 0 (min l.length 40) = l.take (min l.length 40) := by unfold winE subR; simp
  have e1 : winB b 0 (min b.length 500) = b.take (min b.length 500) := by unfold winB subI; simp
  have hby : byM (winB b 0 (min b.length 500)) = true := by
    rw [e1]; unfold byM byB
    rw [Bool.and_eq_true, decide_eq_true_eq]
    refine ⟨by rw [List.length_take]; omega, ?_⟩
    have : ∀ y ∈ b.take (min b.length 500), 0 ≤ y ∧ y ≤ 255 := fun y hy => hb y (List.mem_of_mem_take hy)
    simpa using this
  have h := f4 l b (by unfold inC imin nlen lenR; omega) (by unfold inC imin nlen lenI; omega) (by rw [n1]; unfold leN lenI; omega) (by rw [n1]; exact hby) (by rw [n0]; unfold leN lenR; omega)
    (by
      rw [n0, e0]; unfold okL; rw [Bool.and_eq_true, decide_eq_true_eq, List.all_eq_true]
      exact ⟨by rw [List.length_take]; omega, fun x hx => hl x (List.mem_of_mem_take hx)⟩)
    (by
      rw [n1, e1]
      have := dL_len (b.take (min b.length 500))
      rw [List.length_take] at this
      exact decide_eq_true (by omega))
  refine h.args fun σ w hr hw => ?_
  obtain ⟨⟨d0, -⟩, ⟨d1, -⟩, -⟩ := hw
  have b0 := hr.blk 0 _ d0 rfl rfl
  have b1 := hr.blk 1 _ d1 rfl rfl
  have l0 : (σ.loc 0).len = l.length * 6 := b0.len.symm
  have l1 : (σ.loc 1).len = b.length := b1.len.symm
  have le0 := b0.le
  have le1 := b1.le
  refine ⟨⟨⟨d0, ?_⟩, ⟨d1, ?_⟩, trivial⟩, ?_⟩
  · refine ⟨by decide, ?_, ?_⟩ <;> simp only [Loc.room, lenR] <;> omega
  · refine ⟨by decide, ?_, ?_⟩ <;> simp only [Loc.room, lenI] <;> omega
  · have q0 : (σ.loc 0).len / 6 = lenR sE l := by unfold lenR; omega
    have q1 : (σ.loc 1).len / 1 = lenI b := by unfold lenI; omega
    simp only [denL, den, slV, Loc.room, q0, q1, Nat.sub_zero]
    simp [Loc.base]
end Go.Proofs.YtnejcdinieaemaaDoor.Tr
