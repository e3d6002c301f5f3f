import Derived.Test.YtfijbmnkbfljfaaNego
set_option linter.unusedVariables false
set_option linter.unusedSimpArgs false
namespace Go.Proofs.Ytfijbmnkbfljfaa.Nego
open Go.Abs
theorem shake_eq (c : Int) : f39r0 c = f40r0 c := by
  unfold f39r0 f40r0
  simp only [ilt_d, ile_d, ieq_d, cond_if, decide_eq_true_eq]
  repeat' split
  all_goals omega
theorem k40 : f40r0 0 = 2 ∧ f40r0 1 = 3 ∧ f40r0 2 = 4 ∧ f40r0 3 = 6 := ⟨rfl, rfl, rfl, rfl⟩
theorem shaken0 (t : Int) : imax (f51r0 t) 0 = f38r0 t := by
  unfold f51r0 f38r0
  simp only [k40.1, k40.2.1, k40.2.2.1, k40.2.2.2, imax, ieq_d, cond_if, decide_eq_true_eq]
  repeat' split
  all_goals omega
theorem shaken1 (t : Int) : ile 0 (f51r0 t) = f38r1 t := by
  unfold f51r0 f38r1
  simp only [k40.1, k40.2.1, k40.2.2.1, k40.2.2.2, ile_d, ieq_d, cond_if, decide_eq_true_eq]
  repeat' split
  all_goals first | omega | (simp; done) | (simp; omega)
theorem ask_eq (c : Int) : f34r0 c = f41r0 c := by
  unfold f34r0 f41r0
  simp only [ilt_d, ile_d, ieq_d, cond_if, decide_eq_true_eq]
  repeat' split
  all_goals omega
theorem reply0 (a c b : Int) : f29r0 a c b = f30r0 a c b := by
  unfold f29r0 f30r0
  rw [shake_eq, shake_eq, k40.1]
  unfold f40r0
  simp only [ilt_d, ile_d, ieq_d, imax, cond_if, decide_eq_true_eq]
  repeat' split
  all_goals omega
theorem reply1 (a c b : Int) : f29r1 a c b = f30r1 a c b := by
  unfold f29r1 f30r1
  simp only [ilt_d, ile_d, ieq_d, cond_if, decide_eq_true_eq]
  repeat' split
  all_goals omega
theorem settle0 (a c : Int) : f31r0 a c = f32r0 a c := by
  unfold f31r0 f32r0
  rw [shaken1]
  simp only [ilt_d, ile_d, ieq_d, cond_if, decide_eq_true_eq]
  repeat' split
  all_goals omega
theorem settle1 (a c : Int) : f31r1 a c = f32r1 a c := by
  unfold f31r1 f32r1
  rw [shaken1, shaken0]
  simp only [ilt_d, ile_d, cond_if, decide_eq_true_eq]
  repeat' split
  all_goals omega
theorem eqr (x : Int) : ieq x x = true := by simp [ieq]
theorem lawAnswers (a c m : Int) (w0 : (Lit.int .u8 a).wf = true) (w1 : (Lit.int .i64 c).wf = true) (w2 : (Lit.int .i64 m).wf = true) :
    ACalls Try.prog 8 [.v (.int .u8 a), .v (.int .i64 c), .v (.int .i64 m)] [] (.v (.bool true)) [] [] := by
  have h := f8 a c m
  have e : f8r0 a c m = true := by
    unfold f8r0
    rw [reply0, reply1, settle0, settle1]
    simp [eqr]
  rw [e] at h; exact h
theorem start_eq (a : Int) : f42r0 a = bif f38r1 a then (bif ieq (f38r0 a) 3 then 6 else 5) else 5 := by
  unfold f42r0; rw [shaken1, shaken0]
theorem beqr (x : Bool) : beqB x x = true := by simp [beqB]
theorem lawShakes (c a w : Int) (w0 : (Lit.int .i64 c).wf = true) (w1 : (Lit.int .u8 a).wf = true) (w2 : (Lit.int .i64 w).wf = true) :
    ACalls Try.prog 11 [.v (.int .i64 c), .v (.int .u8 a), .v (.int .i64 w)] [] (.v (.bool true)) [] [] := by
  have h := f11 c a w
  have e : f11r0 c a w = true := by
    unfold f11r0
    rw [start_eq, shaken0, shaken1, shake_eq, ask_eq]
    simp only [eqr, beqr, cond_true]
    cases f38r1 a <;> cases ieq (f38r0 a) 3 <;> rfl
  rw [e] at h; exact h
theorem lawAgrees (a c w : Int) (w0 : (Lit.int .i64 a).wf = true) (w1 : (Lit.int .i64 c).wf = true) (w2 : (Lit.int .u8 w).wf = true) :
    ACalls Try.prog 9 [.v (.int .i64 a), .v (.int .i64 c), .v (.int .u8 w)] [] (.v (.bool true)) [] [] := by
  have h := f9 a c w
  have hw := wf_u8' w2
  have e : f9r0 a c w = true := by
    have e1 : icv .i64 (irem w 4) = w % 4 := by unfold icv irem; rw [Int.tmod_eq_emod_of_nonneg hw.1, w_i64_in (by omega)]
    unfold f9r0
    rw [e1]
    have hx : imax 0 (imin a 2) = 0 ∨ imax 0 (imin a 2) = 1 ∨ imax 0 (imin a 2) = 2 := by unfold imax imin; omega
    have hy : imax 0 (imin c 2) = 0 ∨ imax 0 (imin c 2) = 1 ∨ imax 0 (imin c 2) = 2 := by unfold imax imin; omega
    have hz : w % 4 = 0 ∨ w % 4 = 1 ∨ w % 4 = 2 ∨ w % 4 = 3 := by omega
    rcases hx with hx | hx | hx <;> rcases hy with hy | hy | hy <;> rcases hz with hz | hz | hz | hz <;> rw [hx, hy, hz] <;> decide
  rw [e] at h; exact h
end Go.Proofs.Ytfijbmnkbfljfaa.Nego
