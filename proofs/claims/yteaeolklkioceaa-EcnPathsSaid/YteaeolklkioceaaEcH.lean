import Derived.Test.YteaeolklkioceaaEc
set_option maxRecDepth 100000
namespace Go.Proofs.Yteaeolklkioceaa.Ec
open Go.Abs
theorem seqS_d (a b : ByteArray) : seqS a b = decide (a = b) := by
  obtain ⟨⟨x⟩⟩ := a; obtain ⟨⟨y⟩⟩ := b
  show ((⟨x⟩ : Array UInt8) == ⟨y⟩) = _
  by_cases h : x = y <;> simp [h]
theorem names_eq (c : Int) : seqS (f39r0 c) (f38r0 c) = true := by
  rw [seqS_d, decide_eq_true_eq]
  unfold f39r0 f38r0 f49r0
  simp only [notB_d, ile_d, ieq_d, cond_if, Bool.not_eq_true']
  by_cases h0 : c = 0
  · subst h0; simp
  by_cases h1 : c = 1
  · subst h1; simp
  by_cases h2 : c = 2
  · subst h2; simp
  by_cases h3 : c = 3
  · subst h3; simp
  simp only [h0, h1, h2, h3, decide_false, Bool.false_eq_true, if_false]
  rw [if_pos]
  by_cases h4 : 0 ≤ c
  · simp [h4]; omega
  · simp [h4]
def nm (i : Nat) : ByteArray := match i with | 0 => bs [110, 111, 116] | 1 => bs [101, 99, 116, 49] | 2 => bs [101, 99, 116, 48] | _ => bs [99, 101]
theorem law_names_true (c : Int) (s : ByteArray) : f11r0 c s = true := by
  have e := names_eq c
  unfold f11r0
  simp only [e]
  have k0 : ∀ i : Nat, i < 4 → seqS (nm i) (nm i) = true := by decide +kernel
  have kl : ∀ i : Nat, i < 4 → ilt 0 (slen (nm i)) = true := by decide +kernel
  have k37 : ∀ i : Nat, i < 4 → f37r1 (nm i) = true := by decide +kernel
  have k38 : ∀ i : Nat, i < 4 → seqS (f38r0 (f37r0 (nm i))) (nm i) = true := by decide +kernel
  have k39 : ∀ i : Nat, i < 4 → seqS (nm i) (bs [110, 111, 116]) || seqS (nm i) (bs [101, 99, 116, 49]) || seqS (nm i) (bs [101, 99, 116, 48]) || seqS (nm i) (bs [99, 101]) = true := by decide +kernel
  by_cases hs : ∃ i, i < 4 ∧ s = nm i
  · obtain ⟨i, hi, rfl⟩ := hs
    rw [kl i hi, k37 i hi, k38 i hi]
    have := k39 i hi
    cases h0 : seqS (nm i) (bs [110, 111, 116]) <;> cases h1 : seqS (nm i) (bs [101, 99, 116, 49]) <;> cases h2 : seqS (nm i) (bs [101, 99, 116, 48]) <;> cases h3 : seqS (nm i) (bs [99, 101]) <;> simp_all [notB, beqB]
  · have n : ∀ i, i < 4 → seqS s (nm i) = false ∧ seqS (nm i) s = false := fun i hi => by
      have : s ≠ nm i := fun h => hs ⟨i, hi, h⟩
      rw [seqS_d, seqS_d]; exact ⟨decide_eq_false this, decide_eq_false (fun h => this h.symm)⟩
    have n0 := n 0 (by decide); have n1 := n 1 (by decide); have n2 := n 2 (by decide); have n3 := n 3 (by decide)
    have a0 : seqS s (bs [110, 111, 116]) = false := n0.1
    have a1 : seqS s (bs [101, 99, 116, 49]) = false := n1.1
    have a2 : seqS s (bs [101, 99, 116, 48]) = false := n2.1
    have a3 : seqS s (bs [99, 101]) = false := n3.1
    have b0 : seqS (bs [110, 111, 116]) s = false := n0.2
    have b1 : seqS (bs [101, 99, 116, 49]) s = false := n1.2
    have b2 : seqS (bs [101, 99, 116, 48]) s = false := n2.2
    have b3 : seqS (bs [99, 101]) s = false := n3.2
    have c1 : f37r1 s = false := by unfold f37r1; rw [b0, b1, b2, b3]; rfl
    have c0 : f37r0 s = 0 := by unfold f37r0; rw [b0, b1, b2, b3]; rfl
    rw [a0, a1, a2, a3, c1, c0]
    cases ilt 0 (slen s) <;> rfl
theorem law_names (c : Int) (s : ByteArray) (_w0 : (Lit.int .i64 c).wf = true) (_w1 : s.size ≤ maxLen) : ACalls Try.prog 11 [AV.v (.int .i64 c), AV.v (Value.string s)] [] (AV.v (Value.bool true)) [] [] := by
  have h := f11 c s
  rw [law_names_true] at h; exact h
end Go.Proofs.Yteaeolklkioceaa.Ec
