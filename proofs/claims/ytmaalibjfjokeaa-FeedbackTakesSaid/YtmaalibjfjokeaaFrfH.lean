import Derived.Test.YtmaalibjfjokeaaFrf
/- The document's sender, in the words of the program's. -/
set_option linter.unusedVariables false
set_option linter.unusedSimpArgs false
set_option maxRecDepth 100000
namespace Go.Proofs.Ytmaalibjfjokeaa.Fk
open Go.Abs Go.Proofs.Ytmaalibjfjokeaa.Ser Go.Proofs.Ytmaalibjfjokeaa.Ace
theorem ch1 {α : Type} (a p q r : Int) (u v : α) : (bif ilt 7 a then u else bif ilt p (-1) then u else bif ile 16777216 p then u else bif ilt q (-1) then u else bif ile 16777216 q then u else bif ilt r (-1) then u else bif ile 16777216 r then u else v) = bif wrB a p q r then u else v := by
  unfold wrB
  simp only [cond_if, ilt_d, ile_d, decide_eq_true_eq]
  by_cases h1 : 7 < a <;> by_cases h2 : p < -1 <;> by_cases h3 : 16777216 ≤ p <;> by_cases h4 : q < -1 <;> by_cases h5 : 16777216 ≤ q <;> by_cases h6 : r < -1 <;> by_cases h7 : 16777216 ≤ r <;> simp [h1, h2, h3, h4, h5, h6, h7]
theorem ch2 {α : Type} (x y z p q r : Int) (u v : α) : (bif ilt (fd x p) 0 then u else bif ilt (fd y q) 0 then u else bif ilt (fd z r) 0 then u else v) = bif frB x y z p q r then v else u := by
  unfold frB
  simp only [cond_if, ilt_d, decide_eq_true_eq]
  by_cases h1 : fd x p < 0
  · rw [if_pos h1, if_neg (by omega)]
  rw [if_neg h1]
  by_cases h2 : fd y q < 0
  · rw [if_pos h2, if_neg (by omega)]
  rw [if_neg h2]
  by_cases h3 : fd z r < 0
  · rw [if_pos h3, if_neg (by omega)]
  · rw [if_neg h3, if_pos (by omega)]
theorem ch3 {α : Type} (an : Bool) (s l : Int) (u v : α) : (bif an then bif ile (dif (icv .u64 s) (icv .u64 l) 32) 0 then u else v else v) = bif stB an l s then u else v := by
  unfold stB ile; cases an <;> cases decide (dif (icv .u64 s) (icv .u64 l) 32 ≤ 0) <;> rfl
theorem ch {α : Type} (an : Bool) (x y z l s a p q r : Int) (u v : α) : (bif wrB a p q r then u else bif frB x y z p q r then (bif stB an l s then u else v) else u) = bif tkB an x y z l s a p q r then v else u := by
  unfold tkB; cases wrB a p q r <;> cases frB x y z p q r <;> cases stB an l s <;> rfl
theorem g14 (m k b x y z l : Int) (an : Bool) (u s a p q r : Int) (ha : 0 ≤ a ∧ a ≤ 255) (hm : -9223372036854775808 ≤ m ∧ m ≤ 9223372036854775807) :
    ACalls Try.prog 14 [.agg [.v (.int .i64 m), .v (.int .i64 k), .v (.int .i64 b), .v (.int .i64 x), .v (.int .i64 y), .v (.int .i64 z), .v (.int .u32 l), .v (.bool an)], .agg [.v (.int .i64 u), .v (.int .u32 s), .v (.int .u8 a), .v (.int .i64 p), .v (.int .i64 q), .v (.int .i64 r)]] []
      (.tup [.agg [.v (.int .i64 m), .v (.int .i64 (kaI an m k b x y z l s a p q r)), .v (.int .i64 (baI an m k b x y z l s a p q r)), .v (.int .i64 (byI (tkB an x y z l s a p q r) x p)), .v (.int .i64 (byI (tkB an x y z l s a p q r) y q)), .v (.int .i64 (byI (tkB an x y z l s a p q r) z r)), .v (.int .u32 (bif tkB an x y z l s a p q r then s else l)), .v (.bool (bif tkB an x y z l s a p q r then true else an))],
        .v (.int .i64 (niI an m k b x y z l s a p q r)), .v (.int .i64 (erI an x y z l s a p q r))]) [] [] := by
  have e0 : f14r0 m k b x y z l an u s a p q r = kaI an m k b x y z l s a p q r := by
    unfold f14r0 kaI; rw [ch1, ch2, ch3, ch]; rfl
  have e1 : f14r1 m k b x y z l an u s a p q r = baI an m k b x y z l s a p q r := by
    unfold f14r1 baI; rw [ch1, ch2, ch3, ch]
    unfold tol
    cases tkB an x y z l s a p q r <;> cases ile 0 q <;> rfl
  have e2 : f14r2 m k b x y z l an u s a p q r = byI (tkB an x y z l s a p q r) x p := by unfold f14r2 byI; rw [ch1, ch2, ch3, ch]
  have e3 : f14r3 m k b x y z l an u s a p q r = byI (tkB an x y z l s a p q r) y q := by unfold f14r3 byI; rw [ch1, ch2, ch3, ch]
  have e4 : f14r4 m k b x y z l an u s a p q r = byI (tkB an x y z l s a p q r) z r := by unfold f14r4 byI; rw [ch1, ch2, ch3, ch]
  have e5 : f14r5 m k b x y z l an u s a p q r = bif tkB an x y z l s a p q r then s else l := by unfold f14r5; rw [ch1, ch2, ch3, ch]
  have e6 : f14r6 m k b x y z l an u s a p q r = bif tkB an x y z l s a p q r then true else an := by unfold f14r6; rw [ch1, ch2, ch3, ch]
  have e7 : f14r7 m k b x y z l an u s a p q r = niI an m k b x y z l s a p q r := by
    unfold f14r7 niI; rw [ch1, ch2, ch3, ch]
    unfold tol
    cases tkB an x y z l s a p q r <;> cases ile 0 q <;> cases ile k (iadd .i64 b (gue b a (fs y q) m)) <;> rfl
  have e8 : f14r8 m k b x y z l an u s a p q r = erI an x y z l s a p q r := by
    unfold f14r8 erI; rw [ch1, ch2, ch3]
    unfold tkB; cases wrB a p q r <;> cases frB x y z p q r <;> cases stB an l s <;> rfl
  rw [← e0, ← e1, ← e2, ← e3, ← e4, ← e5, ← e6, ← e7, ← e8]
  apply f14 m k b x y z l an u s a p q r <;> intros <;> first | exact ha | exact hm | exact uu _ | exact fs_bd _ _
end Go.Proofs.Ytmaalibjfjokeaa.Fk
