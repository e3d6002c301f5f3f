import Derived.Test.YtihnhjkaamngoaaCodeB
import Derived.Test.YtihnhjkaamngoaaCodeQH
set_option linter.unusedVariables false
set_option linter.unusedSimpArgs false
set_option maxRecDepth 100000
namespace Go.Proofs.Ytihnhjkaamngoaa.Code
open Go.Abs
theorem strI_bytes (t : ByteArray) : strI (bytesI t) = t := by
  obtain ⟨⟨x⟩⟩ := t
  unfold strI Go.strOfNums bytesI
  congr 1
  show ((x.map fun b => (b.toNat : Int)).map fun n => UInt8.ofNat n.toNat).toArray = ⟨x⟩
  rw [List.map_map]
  have : (fun n : Int => UInt8.ofNat n.toNat) ∘ (fun b : UInt8 => (b.toNat : Int)) = id := by
    funext b; simp
  rw [this, List.map_id]
/-- a number's bytes tell it -/
theorem numG_vb : ∀ (n : Nat) (y acc : Int) (i : Nat) (rest : List Int), y.toNat ≤ n → i ≤ 9 → 0 ≤ y → y * 128 ^ i < 18446744073709551616 → (0 < i → 0 < y) →
    numG (vb y ++ rest) i acc = (acc + y * 128 ^ i, (i : Int) + ((vb y).length : Int), (0 : Int))
  | n, y, acc, i, rest, hn, hi, h0, hy, hp => by
    by_cases hlt : y < 128
    · rw [vb_lt ⟨h0, hlt⟩, List.singleton_append, numG]
      rw [if_neg, if_neg (by omega), if_neg (by omega)]
      · simp
      · rintro ⟨rfl, h1⟩; simp at hy; omega
    · have hi8 : i ≤ 8 := by
        rcases ten hi with rfl | rfl | rfl | rfl | rfl | rfl | rfl | rfl | rfl | rfl <;> simp at * <;> omega
      have hc0 : ¬ (i = 9 ∧ 1 < y % 128 + 128) := by omega
      have hc1 : 128 ≤ y % 128 + 128 := by omega
      rw [vb_ge (by omega), List.cons_append, numG, if_neg hc0, if_pos hc1]
      match n, hn with
      | 0, hn => omega
      | n + 1, hn =>
        have e : (128 : Int) ^ (i + 1) = 128 ^ i * 128 := Int.pow_succ ..
        have hp0 : 0 ≤ (128 : Int) ^ i := Int.pow_nonneg (by omega)
        have hdm : y = 128 * (y / 128) + y % 128 := by omega
        have hq : y / 128 * 128 ^ (i + 1) + y % 128 * 128 ^ i = y * 128 ^ i := by
          rw [e, show y / 128 * (128 ^ i * 128) = (128 * (y / 128)) * 128 ^ i from by rw [Int.mul_comm (128 ^ i) 128, ← Int.mul_assoc, Int.mul_comm (y / 128) 128], ← Int.add_mul, ← hdm]
        have hle : 0 ≤ y % 128 * 128 ^ i := Int.mul_nonneg (by omega) hp0
        have ih := numG_vb n (y / 128) (acc + (y % 128 + 128) % 128 * 128 ^ i) (i + 1) rest (by omega) (by omega) (by omega) (by omega) (by omega)
        rw [ih, show (y % 128 + 128) % 128 = y % 128 by omega]
        simp only [List.length_cons, Prod.mk.injEq, and_true]
        constructor
        · omega
        · omega
theorem num0_vb {m : List Int} {a y : Int} (rest : List Int) (hu : u64B y = true) (h : m.drop a.toNat = vb y ++ rest) : num0 m a = (y, ((vb y).length : Int), (0 : Int)) := by
  rw [u64B_iff] at hu
  unfold num0; rw [h, numG_vb y.toNat y 0 0 rest (Nat.le_refl _) (by omega) hu.1 (by simpa using hu.2) (by omega)]
  simp
/-- what is put for a number -/
def seg (t : ByteArray) (x : Int) : List Int := vb (zz x) ++ vb (icv .u64 x) ++ tb t
theorem icv_u {x : Int} : u64B (icv .u64 x) = true := by rw [u64B_iff]; unfold icv; rw [w_u64]; omega
theorem seg_len {t : ByteArray} {x : Int} (hx : i64B x = true) (ht : t.size ≤ 200) : (seg t x).length ≤ 330 := by
  have h1 := vb_len (zz_u64 hx)
  have h2 := vb_len (icv_u (x := x))
  have h3 := tb_len (t := t) (by omega)
  unfold seg; simp only [List.length_append]; omega
theorem all_len {t : ByteArray} (ht : t.size ≤ 200) : ∀ {y : List Int}, (∀ x ∈ y, i64B x = true) → (y.flatMap (seg t)).length ≤ 330 * y.length
  | [], _ => by simp
  | x :: y, h => by
    have h1 := seg_len (h x (by simp)) ht
    have h2 := all_len ht (y := y) fun z hz => h z (by simp [hz])
    simp only [List.flatMap_cons, List.length_append, List.length_cons]; omega
theorem take_seg {t : ByteArray} {y : List Int} {i : Nat} (h : i < y.length) : (y.take (i + 1)).flatMap (seg t) = (y.take i).flatMap (seg t) ++ seg t y[i] := by
  rw [List.take_succ_eq_append_getElem h, List.flatMap_append]; simp
theorem la (l : List Int) (t : ByteArray) (y : List Int) (ht : t.size ≤ 200) (hy : ∀ x ∈ y, i64B x = true) (hl : y.length ≤ 40) : ∀ (k i : Nat), i + k = y.length →
    LaL l (k + 1) t (nlen (lenI y)) y (i : Int) ((y.take i).flatMap (seg t)) = some (t, y, y.flatMap (seg t))
  | 0, i, h => by
    rw [LaL, show ilt (i : Int) (nlen (lenI y)) = false from by simp only [ilt_d, nlen, lenI, decide_eq_false_iff_not]; omega, List.take_of_length_le (by omega)]; rfl
  | k + 1, i, h => by
    have hi : i < y.length := by omega
    have e3 : iadd .i64 (i : Int) 1 = ((i + 1 : Nat) : Int) := by unfold iadd; rw [w_i64_in (by omega)]; omega
    have hx := hy y[i] (List.getElem_mem hi)
    have ia := inAt hi
    have hb := all_len ht (y := y.take i) fun z hz => hy z (List.mem_of_mem_take hz)
    have ht' : (y.take i).length ≤ 40 := by rw [List.length_take]; omega
    have h1 := vb_len (zz_u64 hx)
    have h2 := vb_len (icv_u (x := y[i]))
    rw [LaL, show ilt (i : Int) (nlen (lenI y)) = true from by simp only [ilt_d, nlen, lenI, decide_eq_true_eq]; omega, getAt hi, e3, ia.1, ia.2, decide_eq_true hx, decide_eq_true (icv_u (x := y[i])),
      decide_eq_true (show ((y.take i).flatMap (seg t)).length ≤ 50000 by omega), decide_eq_true (show (((y.take i).flatMap (seg t)).append (vb (zz y[i]))).length ≤ 50000 by rw [app_def, List.length_append]; omega),
      decide_eq_true (show t.size ≤ 300 by omega), decide_eq_true (show ((((y.take i).flatMap (seg t)).append (vb (zz y[i]))).append (vb (icv .u64 y[i]))).length ≤ 50000 by rw [app_def, app_def, List.length_append, List.length_append]; omega)]
    have e : ((((y.take i).flatMap (seg t)).append (vb (zz y[i]))).append (vb (icv .u64 y[i]))).append (tb t) = (y.take (i + 1)).flatMap (seg t) := by
      rw [take_seg hi]; simp only [app_def, seg, List.append_assoc]
    rw [e]
    exact la l t y ht hy hl k (i + 1) (by omega)
theorem byB_app {a c : List Int} (h1 : byB a = true) (h2 : byB c = true) : byB (a ++ c) = true := by
  rw [byB_iff] at *; intro x hx; rcases List.mem_append.1 hx with h | h
  · exact h1 x h
  · exact h2 x h
theorem vb_by : ∀ (n : Nat) (x : Int), x.toNat ≤ n → 0 ≤ x → byB (vb x) = true
  | n, x, hn, h0 => by
    by_cases h : x < 128
    · rw [vb_lt ⟨h0, h⟩, byB_iff]; intro c hc; simp at hc; omega
    · rw [vb_ge (by omega), byB_iff]
      intro c hc
      rcases List.mem_cons.1 hc with rfl | hc
      · omega
      · match n, hn with
        | 0, hn => omega
        | n + 1, hn => exact byB_iff.1 (vb_by n (x / 128) (by omega) (by omega)) c hc
theorem tb_by (t : ByteArray) : byB (tb t) = true := by
  unfold tb
  refine byB_app (vb_by _ _ (Nat.le_refl _) (by unfold slen; omega)) (byB_iff.2 fun c hc => ?_)
  unfold bytesI at hc
  obtain ⟨d, -, rfl⟩ := List.mem_map.1 hc
  have := d.toNat_lt
  omega
theorem seg_by {t : ByteArray} {x : Int} (hx : i64B x = true) : byB (seg t x) = true := by
  have h1 := u64B_iff.1 (zz_u64 hx)
  have h2 := u64B_iff.1 (icv_u (x := x))
  exact byB_app (byB_app (vb_by _ _ (Nat.le_refl _) h1.1) (vb_by _ _ (Nat.le_refl _) h2.1)) (tb_by t)
theorem all_by {t : ByteArray} {y : List Int} (hy : ∀ x ∈ y, i64B x = true) : byB (y.flatMap (seg t)) = true := by
  rw [byB_iff]; intro c hc
  obtain ⟨x, hx, hc⟩ := List.mem_flatMap.1 hc
  exact byB_iff.1 (seg_by (hy x hx)) c hc
theorem icv_i {x : Int} (h : i64B x = true) : uz (zz x) = x := uz_zz
theorem lb (l : List Int) (t : ByteArray) (y : List Int) (ht : t.size ≤ 200) (hy : ∀ x ∈ y, i64B x = true) (hl : y.length ≤ 40) (m : List Int) (hm : m = y.flatMap (seg t)) : ∀ (k i : Nat), i + k = y.length →
    LbL l (k + 1) t (nlen (lenI y)) m y (i : Int) (((y.take i).flatMap (seg t)).length : Int) 0 = some (1, [], 0, 0, [], m, (m.length : Int), 0, m)
  | 0, i, h => by
    rw [LbL, show ilt (i : Int) (nlen (lenI y)) = false from by simp only [ilt_d, nlen, lenI, decide_eq_false_iff_not]; omega, List.take_of_length_le (by omega), ← hm]; rfl
  | k + 1, i, h => by
    have hi : i < y.length := by omega
    have e3 : iadd .i64 (i : Int) 1 = ((i + 1 : Nat) : Int) := by unfold iadd; rw [w_i64_in (by omega)]; omega
    have hx := hy y[i] (List.getElem_mem hi)
    have ia := inAt hi
    have hb := all_len ht (y := y) hy
    have hml : m.length ≤ 100000 := by rw [hm]; omega
    have hbm : byB m = true := by rw [hm]; exact all_by hy
    -- the bytes that come
    have hd : m.drop ((y.take i).flatMap (seg t)).length = seg t y[i] ++ (y.drop (i + 1)).flatMap (seg t) := by
      have e : y = y.take i ++ (y[i] :: y.drop (i + 1)) := by rw [← List.drop_eq_getElem_cons hi, List.take_append_drop]
      have e2 : m = (y.take i).flatMap (seg t) ++ (seg t y[i] ++ (y.drop (i + 1)).flatMap (seg t)) := by
        rw [hm]; conv => lhs; rw [e]
        rw [List.flatMap_append, List.flatMap_cons]
      rw [e2, List.drop_left]
    generalize ha : ((y.take i).flatMap (seg t)).length = A at *
    have hAl : A + (seg t y[i]).length ≤ m.length := by
      have := congrArg List.length hd
      rw [List.length_drop, List.length_append] at this
      have h0 : 0 < (seg t y[i]).length := by unfold seg vb; simp only [List.length_append, List.length_cons]; omega
      omega
    have hsl : (seg t y[i]).length = (vb (zz y[i])).length + (vb (icv .u64 y[i])).length + (tb t).length := by unfold seg; simp only [List.length_append]
    have htl : (tb t).length = (vb (slen t)).length + t.size := by unfold tb; rw [List.length_append, bytesI_len]
    have hz := zz_u64 hx
    have hs : u64B (slen t) = true := by rw [u64B_iff]; unfold slen; omega
    have ok0 : okC m (A : Int) = true := okC_iff.2 ⟨by omega, hbm⟩
    have n1 : num0 m (A : Int) = (zz y[i], ((vb (zz y[i])).length : Int), (0 : Int)) := num0_vb (vb (icv .u64 y[i]) ++ tb t ++ (y.drop (i + 1)).flatMap (seg t)) hz (by rw [Int.toNat_natCast, hd, seg]; simp only [List.append_assoc])
    have o1 : upOk m (A : Int) 0 18446744073709551615 = true := by unfold upOk; rw [n1, decide_eq_true_eq]; have := u64B_iff.1 hz; exact ⟨rfl, rfl, by simp only; omega⟩
    have v1 : upV m (A : Int) 0 18446744073709551615 = zz y[i] := by unfold upV; rw [o1, n1]; rfl
    have a1 : upA m (A : Int) 0 18446744073709551615 = ((A + (vb (zz y[i])).length : Nat) : Int) := by unfold upA; rw [o1, n1]; simp only [cond_true]; omega
    have r1 : upR m (A : Int) 0 18446744073709551615 = 0 := by unfold upR; rw [n1]; have := u64B_iff.1 hz; simp only; rw [if_neg (by simp), if_neg (by simp), if_pos (by omega)]
    have ok1 : okC m ((A + (vb (zz y[i])).length : Nat) : Int) = true := okC_iff.2 ⟨by omega, hbm⟩
    have n2 : num0 m ((A + (vb (zz y[i])).length : Nat) : Int) = (icv .u64 y[i], ((vb (icv .u64 y[i])).length : Int), (0 : Int)) := num0_vb (tb t ++ (y.drop (i + 1)).flatMap (seg t)) icv_u (by
      rw [Int.toNat_natCast, ← List.drop_drop, hd, seg]; simp only [List.append_assoc]; rw [List.drop_left])
    have o2 : upOk m ((A + (vb (zz y[i])).length : Nat) : Int) 0 18446744073709551615 = true := by unfold upOk; rw [n2, decide_eq_true_eq]; have := u64B_iff.1 (icv_u (x := y[i])); exact ⟨rfl, rfl, by simp only; omega⟩
    have v2 : upV m ((A + (vb (zz y[i])).length : Nat) : Int) 0 18446744073709551615 = icv .u64 y[i] := by unfold upV; rw [o2, n2]; rfl
    have a2 : upA m ((A + (vb (zz y[i])).length : Nat) : Int) 0 18446744073709551615 = ((A + (vb (zz y[i])).length + (vb (icv .u64 y[i])).length : Nat) : Int) := by unfold upA; rw [o2, n2]; simp only [cond_true]; omega
    have r2 : upR m ((A + (vb (zz y[i])).length : Nat) : Int) 0 18446744073709551615 = 0 := by unfold upR; rw [n2]; have := u64B_iff.1 (icv_u (x := y[i])); simp only; rw [if_neg (by simp), if_neg (by simp), if_pos (by omega)]
    have ok2 : okC m ((A + (vb (zz y[i])).length + (vb (icv .u64 y[i])).length : Nat) : Int) = true := okC_iff.2 ⟨by omega, hbm⟩
    have d3 : m.drop (A + (vb (zz y[i])).length + (vb (icv .u64 y[i])).length) = vb (slen t) ++ (bytesI t ++ (y.drop (i + 1)).flatMap (seg t)) := by
      rw [← List.drop_drop, ← List.drop_drop, hd, seg]; simp only [List.append_assoc]; rw [List.drop_left, List.drop_left, tb]; simp only [List.append_assoc]
    have n3 : num0 m ((A + (vb (zz y[i])).length + (vb (icv .u64 y[i])).length : Nat) : Int) = (slen t, ((vb (slen t)).length : Int), (0 : Int)) := num0_vb _ hs (by rw [Int.toNat_natCast]; exact d3)
    have o3 : txOk m ((A + (vb (zz y[i])).length + (vb (icv .u64 y[i])).length : Nat) : Int) 0 (slen t) = true := by
      unfold txOk; rw [n3, decide_eq_true_eq]; refine ⟨rfl, rfl, by simp only; omega, ?_⟩
      simp only [slen] at *; omega
    have v3 : txV m ((A + (vb (zz y[i])).length + (vb (icv .u64 y[i])).length : Nat) : Int) 0 (slen t) = t := by
      unfold txV; rw [o3, n3]; simp only [cond_true]
      have e : ((((A + (vb (zz y[i])).length + (vb (icv .u64 y[i])).length : Nat) : Int)) + ((vb (slen t)).length : Int)).toNat = A + (vb (zz y[i])).length + (vb (icv .u64 y[i])).length + (vb (slen t)).length := by omega
      have e2 : subI m (A + (vb (zz y[i])).length + (vb (icv .u64 y[i])).length + (vb (slen t)).length) (slen t).toNat = bytesI t := by
        unfold subI; rw [← List.drop_drop, d3, List.drop_left, show (slen t).toNat = (bytesI t).length from by rw [bytesI_len]; unfold slen; omega, List.take_left]
      rw [e, e2, strI_bytes]
    have a3 : txA m ((A + (vb (zz y[i])).length + (vb (icv .u64 y[i])).length : Nat) : Int) 0 (slen t) = (((y.take (i + 1)).flatMap (seg t)).length : Int) := by
      unfold txA; rw [o3, n3, take_seg hi, List.length_append, ha, hsl, htl]; simp only [cond_true]; unfold slen; omega
    have r3 : txR m ((A + (vb (zz y[i])).length + (vb (icv .u64 y[i])).length : Nat) : Int) 0 (slen t) = 0 := by
      unfold txOk at o3; rw [decide_eq_true_eq] at o3
      unfold txR; rw [if_neg (by simp), if_neg (by rw [n3]; simp), if_neg (by simpa using o3.2.2.1), if_pos o3.2.2.2]
    rw [LbL, show ilt (i : Int) (nlen (lenI y)) = true from by simp only [ilt_d, nlen, lenI, decide_eq_true_eq]; omega, getAt hi, e3, ia.1, ia.2, v1, a1, r1, v2, a2, r2, v3, a3, r3, uz_zz,
      show ine y[i] y[i] = false from by simp [ine_d], show ine (icv .u64 y[i]) (icv .u64 y[i]) = false from by simp [ine_d], show seqS t t = true from rf_seqS t, show notB true = false from rfl,
      decide_eq_true ok0, decide_eq_true ok1, decide_eq_true ok2, decide_eq_true (show i64B (slen t) = true from by rw [i64B_iff]; unfold slen; omega)]
    simp only [cond_true, cond_false]
    exact lb l t y ht hy hl m hm k (i + 1) (by omega)
theorem ssub_size' (t : ByteArray) : (ssub t 0 (imin (slen t) 200)).size ≤ 200 := by
  have e : imin (slen t) 200 = ((min t.size 200 : Nat) : Int) := by unfold imin slen; omega
  rw [e]; unfold ssub; rw [ByteArray.size_extract]; simp; omega
theorem backs (l : List Int) (t : ByteArray) (hl : ∀ x ∈ l, i64B x = true) (ht : t.size ≤ 9223372036854775807) :
    ACalls Try.prog 6 [AV.sw 0 1, AV.v (.string t)] [AObj.ints 0 false .i64 l] (AV.v (Value.bool true)) [] [] := by
  have hs := ssub_size' t
  generalize hS : ssub t 0 (imin (slen t) 200) = s at *
  have hll : (subI l 0 (subN (imin (nlen (lenI l)) 40) 0)).length ≤ 40 := by unfold subI subN imin nlen lenI; rw [List.length_take]; omega
  have hy : ∀ x ∈ subI l 0 (subN (imin (nlen (lenI l)) 40) 0), i64B x = true := fun x hx => hl x (by unfold subI at hx; exact List.mem_of_mem_drop (List.mem_of_mem_take hx))
  generalize hY : subI l 0 (subN (imin (nlen (lenI l)) 40) 0) = y at *
  have hb := all_len hs (y := y) hy
  have q1 := la l s y hs hy hll y.length 0 (by omega)
  have q2 := lb l s y hs hy hll _ rfl y.length 0 (by omega)
  have ok : okC (y.flatMap (seg s)) ((y.flatMap (seg s)).length : Int) = true := okC_iff.2 ⟨by omega, all_by hy⟩
  have h := f6 l t (y.length + 1) s y (y.flatMap (seg s)) 1 0 [] 0 0 [] (y.length + 1) (y.flatMap (seg s)) ((y.flatMap (seg s)).length) 0 (y.flatMap (seg s))
    (by rw [hS, hY]; exact q1) (fun h => by simp at h) (fun _ => q2) (by unfold inC imin nlen lenI; omega) (by unfold leN subN imin nlen lenI; show 0 + _ ≤ _; omega) (by unfold inC imin slen; omega) (by unfold fitN lenI; omega) (fun _ => ok)
  have e : f6r0 l t (y.length + 1) s y (y.flatMap (seg s)) 1 0 [] 0 0 [] (y.length + 1) (y.flatMap (seg s)) ((y.flatMap (seg s)).length) 0 (y.flatMap (seg s)) = true := by
    unfold f6r0 lefC
    rw [if_pos rfl, show ieq (((y.flatMap (seg s)).length : Int) - ((y.flatMap (seg s)).length : Int)) 0 = true from by simp [ieq_d], show ieq ((y.flatMap (seg s)).length : Int) (nlen (lenI (y.flatMap (seg s)))) = true from by simp [ieq_d, nlen, lenI]]
    rfl
  rw [e] at h; exact h
theorem law_back (l : List (El (Go.Abs.PS.int .i64).ck)) (t : ByteArray) (w0 : ∀ y ∈ l, El.ok (Go.Abs.PS.int .i64).ck y) (w1 : t.size ≤ maxLen) :
    ACalls Try.prog 6 [AV.sw 0 1, AV.v (.string t)] [rowO (Go.Abs.PS.int .i64).ck l] (AV.v (Value.bool true)) [] [] :=
  backs l t (fun x hx => by rw [i64B_iff]; exact wf_i64' (w0 x hx)) (by unfold maxLen at w1; omega)
end Go.Proofs.Ytihnhjkaamngoaa.Code
