import Derived.Test.YtnejcdinieaemaaDoorTrAf
import Derived.Test.YtnejcdinieaemaaDoorAbsWx
set_option linter.all false
set_option maxRecDepth 100000
/- TraceLines: the law. -/
namespace Go.Proofs.YtnejcdinieaemaaDoor.Tr
open Go.Abs
def winL (l : List (El sE)) : List (El sE) := subR sE l 0 (subN (imin (nlen (lenR sE l)) 40) 0)
theorem winL_take (l : List (El sE)) : winL l = l.take (min l.length 40) := by
  unfold winL subR
  have : subN (imin (nlen (lenR sE l)) 40) 0 = min l.length 40 := by unfold subN imin nlen lenR; omega
  rw [this]; simp
theorem txS_snoc (l : List (El sE)) (e : El sE) : txS (l ++ [e]) = sadd (txS l) (lnB e) := by
  unfold txS sadd
  rw [txL_snoc]
  apply ByteArray.ext
  simp [lnL]
theorem txS_size {l : List (El sE)} (h : ∀ x ∈ l, okE x = true) : (txS l).size ≤ 130 * l.length := by
  have := txL_len h
  show (Array.size _) ≤ _
  simpa [txS] using this
theorem l3 (l0 l : List (El sE)) (k : Int) (hl : l.length ≤ 40) (ho : ∀ x ∈ l, okE x = true) : ∀ (j i : Nat), i + j = l.length →
    L3L l0 k (j + 1) (l.length : Int) l (txS (l.take i)) (i : Int) = some (txS l, l)
  | 0, i, h => by
    have e0 : ilt (i : Int) (l.length : Int) = false := by rw [ilt_d]; exact decide_eq_false (by omega)
    have : l.take i = l := List.take_of_length_le (by omega)
    rw [L3LK]; unfold L3B; rw [e0, this]; rfl
  | j + 1, i, h => by
    have hi : i < l.length := by omega
    have e0 : ilt (i : Int) (l.length : Int) = true := by rw [ilt_d]; exact decide_eq_true (by omega)
    have e2 : inB (i : Int) (lenR sE l) := by unfold inB lenR; omega
    have e3 : ltN (idxN 0 (i : Int)) (lenR sE l) := by unfold ltN idxN lenR; omega
    have a1 : idxN 0 (i : Int) = i := by unfold idxN; omega
    have a2 : iadd .i64 (i : Int) 1 = ((i + 1 : Nat) : Int) := by unfold iadd; rw [w_i64_in (by omega)]; omega
    have eg : getR sE l i = l[i] := by unfold getR; rw [List.getD_eq_getElem?_getD, List.getElem?_eq_getElem hi]; rfl
    have hok : okE l[i] = true := ho _ (List.getElem_mem hi)
    have hs := txS_size (l := l.take i) (fun x hx => ho x (List.mem_of_mem_take hx))
    have hs2 := lnE_size hok
    have e4 : sfit (txS (l.take i)) (lnB l[i]) := by
      unfold sfit
      have : (lnB l[i]).size ≤ 130 := hs2
      have : (l.take i).length ≤ 40 := by rw [List.length_take]; omega
      omega
    have e5 : sadd (txS (l.take i)) (lnB l[i]) = txS (l.take (i + 1)) := by
      rw [← txS_snoc, List.take_add_one, List.getElem?_eq_getElem hi]; rfl
    rw [L3LK]; unfold L3B
    rw [e0]
    simp only [decide_eq_true e2, decide_eq_true e3, cond_true, a2]
    rw [a1] at *
    rw [eg]
    have h5 := decide_eq_true hok
    have h6 := decide_eq_true e4
    show L3K l0 k (j + 1) (bif decide (okE l[i] = true) then bif decide (sfit (txS (l.take i)) (lnB l[i])) then some (.inl ((l.length : Int), l, sadd (txS (l.take i)) (lnB l[i]), ((i + 1 : Nat) : Int))) else none else none) = _
    rw [h5, h6, e5]
    exact l3 l0 l k hl ho j (i + 1) (by omega)
theorem law_lines (l : List (El sE)) (k : Int) (hl : ∀ x ∈ l, okE x = true) : ACalls Tryd.prog 3 [AV.sw 0 6, AV.v (.int .i64 k)] [AObj.rows false sE l] (AV.v (Value.bool true)) [] [] := by
  have hw := winL_take l
  have hk : (winL l).length ≤ 40 := by rw [hw, List.length_take]; omega
  have ho : ∀ x ∈ winL l, okE x = true := fun x hx => by rw [hw] at hx; exact hl x (List.mem_of_mem_take hx)
  have key := l3 l (winL l) k hk ho (winL l).length 0 (by omega)
  have hb : okL (winL l) = true := by
    unfold okL; rw [Bool.and_eq_true, decide_eq_true_eq, List.all_eq_true]; exact ⟨ho, by omega⟩
  have h := f3 l k ((winL l).length + 1) (txS (winL l)) (winL l) key (by unfold inC imin nlen lenR; omega) (by unfold leN subN imin nlen lenR; omega) hb
  have e : seqS (txS (winL l)) (txS (winL l)) = true := rf_seqS _
  rw [e] at h; exact h
theorem wfX {x : Int} (h : (Lit.int .i64 x).wf = true) : smX x = true := decide_eq_true (wf_i64' h)
theorem law_traceLines (l : List (El sE)) (k : Int) (w0 : ∀ x ∈ l, El.ok sE x) (w1 : (Lit.int .i64 k).wf = true) : ACalls Tryd.prog 3 [AV.sw 0 6, AV.v (.int .i64 k)] [AObj.rows false sE l] (AV.v (Value.bool true)) [] [] := by
  refine law_lines l k fun e he => ?_
  obtain ⟨h1, h2, h3, h4, h5, h6⟩ := w0 e he
  unfold okE ok6
  rw [wfX h1, wfX h2, wfX h3, wfX h4, wfX h5, wfX h6]; rfl
end Go.Proofs.YtnejcdinieaemaaDoor.Tr
