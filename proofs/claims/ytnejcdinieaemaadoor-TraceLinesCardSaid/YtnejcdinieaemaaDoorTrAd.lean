import Derived.Test.YtnejcdinieaemaaDoorTrAc
/- A line: the program's is the document's. -/
set_option linter.all false
namespace Go.Proofs.YtnejcdinieaemaaDoor.Tr
open Go.Abs
theorem fS_size {x : Int} (h : smX x = true) : (fS x).size ≤ 21 := by
  show (Array.size _) ≤ 21
  simp only [fS, List.size_toArray]
  exact Lib.itoa_length_le x (smX_1 h).1 (smX_1 h).2
theorem sadd_size (a b : ByteArray) : (sadd a b).size = a.size + b.size := by unfold sadd; exact ByteArray.size_append
theorem sadd_assoc (a b c : ByteArray) : sadd (sadd a b) c = sadd a (sadd b c) := by unfold sadd; exact ByteArray.append_assoc
theorem sadd_nil (a : ByteArray) : sadd a (bs []) = a := by unfold sadd bs; apply ByteArray.ext; simp
theorem nil_sadd (a : ByteArray) : sadd (bs []) a = a := by unfold sadd bs; apply ByteArray.ext; simp
theorem nS_nil : nS [] = bs [] := rfl
theorem nS_cons (x : Int) (l : List Int) : nS (x :: l) = sadd (bs [32]) (sadd (fS x) (nS l)) := by
  unfold nS fS sadd bs; apply ByteArray.ext; simp [numL]
theorem seqS_eq {a b : ByteArray} (h : seqS a b = true) : a = b := by
  unfold seqS at h
  cases a; cases b
  exact congrArg _ (eq_of_beq h)
theorem bs1 (x : Nat) : (bs [x]).size = 1 := rfl
def ok6 (a b c d e f : Int) : Bool := smX a && smX b && smX c && smX d && smX e && smX f
theorem ok6_1 {a b c d e f : Int} (h : ok6 a b c d e f = true) : smX a = true ∧ smX b = true ∧ smX c = true ∧ smX d = true ∧ smX e = true ∧ smX f = true := by
  unfold ok6 at h; simp only [Bool.and_eq_true] at h; exact ⟨h.1.1.1.1.1, h.1.1.1.1.2, h.1.1.1.2, h.1.1.2, h.1.2, h.2⟩
def lnE (a b c d e f : Int) : ByteArray := f8r0 a b c d e f
theorem n4_size {c d e f : Int} (hc : smX c = true) (hd : smX d = true) (he : smX e = true) (hf : smX f = true) : (nS [c, d, e, f]).size ≤ 88 := by
  have := fS_size hc; have := fS_size hd; have := fS_size he; have := fS_size hf
  simp only [nS_cons, nS_nil, sadd_size, bs1, show (bs []).size = 0 from rfl]; omega
theorem lnE_size {a b c d e f : Int} (h : ok6 a b c d e f = true) : (lnE a b c d e f).size ≤ 130 := by
  obtain ⟨ha, hb, hc, hd, he, hf⟩ := ok6_1 h
  have h1 := fS_size ha
  have h2 := n4_size hc hd he hf
  have h3 : (f11r0 b).size ≤ 5 := nmK_size b
  unfold lnE f8r0
  cases seqS (f11r0 b) (bs []) <;> simp only [cond_true, cond_false, sadd_size, bs1] <;> omega
theorem smL4 {c d e f : Int} (hc : smX c = true) (hd : smX d = true) (he : smX e = true) (hf : smX f = true) : smL [c, d, e, f] = true := by
  unfold smL; simp [hc, hd, he, hf]
theorem g8 (a b c d e f : Int) (h : ok6 a b c d e f = true) : ACalls Tryd.prog 8 [AV.agg [AV.v (.int .i64 a), AV.v (.int .i64 b), AV.v (.int .i64 c), AV.v (.int .i64 d), AV.v (.int .i64 e), AV.v (.int .i64 f)]] [] (AV.v (Value.string (lnE a b c d e f))) [] [] := by
  obtain ⟨ha, hb, hc, hd, he, hf⟩ := ok6_1 h
  have h1 := fS_size ha
  have h2 := n4_size hc hd he hf
  have h3 : (f11r0 b).size ≤ 5 := nmK_size b
  have h4 := smL4 hc hd he hf
  refine f8 a b c d e f ?_ (fun _ => ha) ?_ ?_ (fun _ => h4) ?_ ?_ (fun _ => ha) ?_ ?_ (fun _ => h4) ?_ ?_
  · intro h0 h1 a0 a1 a2 a3 a4 a5 a6 a7
    simp only [ilt_d, ile_d, ieq_d, decide_eq_false_iff_not] at *
    show (b : Int) = 8
    omega
  all_goals intro _; unfold sfit; simp only [sadd_size, bs1]; omega
theorem ln_eq (a b c d e f : Int) : f9r0 a b c d e f = lnE a b c d e f := by
  unfold f9r0 lnE f8r0
  show (bif seqS (nmK b) (bs []) then _ else _) = bif seqS (nmK b) (bs []) then _ else _
  cases hs : seqS (nmK b) (bs []) with
  | true =>
    have e0 : nmK b = bs [] := seqS_eq hs
    simp only [cond_true, e0, sadd_nil, nS_cons, nS_nil, sadd_assoc]; rfl
  | false =>
    simp only [cond_false, nS_cons, nS_nil, sadd_assoc, sadd_nil, nil_sadd]; rfl
theorem g9 (a b c d e f : Int) (h : ok6 a b c d e f = true) : ACalls Tryd.prog 9 [AV.agg [AV.v (.int .i64 a), AV.v (.int .i64 b), AV.v (.int .i64 c), AV.v (.int .i64 d), AV.v (.int .i64 e), AV.v (.int .i64 f)]] [] (AV.v (Value.string (lnE a b c d e f))) [] [] := by
  obtain ⟨ha, hb, hc, hd, he, hf⟩ := ok6_1 h
  have h1 := fS_size ha
  have hc1 := fS_size hc; have hd1 := fS_size hd; have he1 := fS_size he; have hf1 := fS_size hf
  have h3 := nmK_size b
  rw [← ln_eq]
  apply f9
  all_goals (try intro _); first | exact ha | exact hb | exact hc | exact hd | exact he | exact hf | (unfold inB lenI; simp only [List.length_cons, List.length_nil]; omega) | (unfold ltN lenI; simp only [List.length_cons, List.length_nil]; omega) | (unfold sfit; simp only [sadd_size, bs1, show getI [a, b, c, d, e, f] 2 = c from rfl, show getI [a, b, c, d, e, f] 3 = d from rfl, show getI [a, b, c, d, e, f] 4 = e from rfl, show getI [a, b, c, d, e, f] 5 = f from rfl]; omega)
end Go.Proofs.YtnejcdinieaemaaDoor.Tr
