import Derived.Test.YtffoldigaififaaAbsD
set_option linter.unusedVariables false
set_option linter.unusedSimpArgs false
/- The real operations do what the abstract ones say. -/
namespace Go.Abs
attribute [local simp] iadd isub imul iquo irem iand ior ixor iandn ishl ishr icv imax imin ieq ine ilt ile beqB notB seqS sadd slen sget nlen offN addN
section
variable {P : Program} {w : World}
theorem run_isAgg {t : TypeId} {b : Bool} (h : aggT P t = some b) : (isAgg t).run P w = .ok b w := by
  unfold aggT at h
  cases hu : P.underlying t with
  | none => simp [hu] at h
  | some d => cases d <;> simp [hu] at h <;> subst h <;> simp [isAgg, run_underlying hu]
theorem run_sizeOf {t : TypeId} {n : Nat} (h : sizeT P t = some n) : (sizeOf t).run P w = .ok n w := by
  simp only [sizeT, Option.map_eq_some_iff] at h
  obtain ⟨i, hi, rfl⟩ := h
  simp [sizeOf, typeInfo, hi]
theorem size_cellsOf {t : TypeId} {n : Nat} (h : sizeT P t = some n) : P.cellsOf t = n := by
  simp only [sizeT, Option.map_eq_some_iff] at h
  obtain ⟨i, hi, rfl⟩ := h
  simp [Program.cellsOf, hi]
theorem run_loadAt_agg {t : TypeId} {n : Nat} {a : Addr} {vs : List Value} (ht : aggT P t = some true) (hs : sizeT P t = some n) (hl : vs.length = n)
    (hc : ∀ j v, vs[j]? = some v → w.cell? (a.add j) = some v) : (Instr.loadAt t (.pointer (some a))).run P w = .ok (.agg vs.toArray) w := by
  have := run_loadCells_list (P := P) w a vs hc
  subst hl
  simp [Instr.loadAt, Instr.sureAddr, loadVar, run_isAgg ht, run_sizeOf hs, this]
theorem run_loadAt_one {t : TypeId} {a : Addr} {v : Value} (ht : aggT P t = some false)
    (hc : w.cell? a = some v) : (Instr.loadAt t (.pointer (some a))).run P w = .ok v w := by
  simp [Instr.loadAt, Instr.sureAddr, loadVar, run_isAgg ht, load, Sem.run, hc]
theorem zeroT_den {σ : Sg} {t : TypeId} {zs : List AV} (h : zeroT P t = some zs) :
    ∃ i z, P.info? t = some i ∧ i.zero = some z ∧ z.cells = (denL σ zs).toArray ∧ wfL σ zs := by
  unfold zeroT at h
  cases hi : P.info? t with
  | none => simp [hi] at h
  | some i =>
    rw [hi] at h
    cases hz : i.zero with
    | none => simp [hz] at h
    | some z =>
      simp only [hz] at h
      have h1 := cs_den (σ := σ) h
      rw [den_ofVal] at h1
      exact ⟨i, z, rfl, hz, h1, cs_wf h (wf_ofVal σ z)⟩
theorem cell_of_heap {r i : Nat} {c : Array Value} {t : TypeId} {fr : Nat × Nat} (h : w.heap[r]? = some (.cells c t fr)) : w.cell? ⟨r, i, none⟩ = c[i]? := by
  simp [World.cell?, h]
theorem addr_add (r off j : Nat) : (⟨r, off, none⟩ : Addr).add j = ⟨r, off + j, none⟩ := by
  unfold Addr.add; split <;> simp_all
end

section
variable {P : Program} {σ : Sg} {g h : List AObj} {w : World} {ρA : Operand → Option AV} {ρ : Operand → Value}

theorem evalsA_den (hρ : ∀ x v, ρA x = some v → ρ x = den σ v ∧ wf σ v) : ∀ {l : List Operand} {vs : List AV}, evalsA ρA l = some vs → l.map ρ = denL σ vs ∧ wfL σ vs
  | [], vs, h => by simp [evalsA] at h; subst h; exact ⟨rfl, trivial⟩
  | x :: l, vs, h => by
    simp only [evalsA] at h
    split at h <;> simp at h
    rename_i v vs' h1 h2
    subst h
    obtain ⟨a1, a2⟩ := hρ _ _ h1
    obtain ⟨b1, b2⟩ := evalsA_den hρ h2
    exact ⟨by simp [denL, a1, b1], a2, b2⟩
theorem partsA_den (hρ : ∀ x v, ρA x = some v → ρ x = den σ v ∧ wf σ v) : ∀ {l : List (Nat × Operand)} {vs : List (Nat × AV)}, partsA ρA l = some vs →
    l.map (fun p => (p.1, ρ p.2)) = vs.map (fun p => (p.1, den σ p.2)) ∧ ∀ p ∈ vs, wf σ p.2
  | [], vs, h => by simp [partsA] at h; subst h; exact ⟨rfl, fun p hp => by simp at hp⟩
  | (i, x) :: l, vs, h => by
    simp only [partsA] at h
    split at h <;> simp at h
    rename_i v vs' h1 h2
    subst h
    obtain ⟨a1, a2⟩ := hρ _ _ h1
    obtain ⟨b1, b2⟩ := partsA_den hρ h2
    refine ⟨by simp [a1, b1], fun p hp => ?_⟩
    simp at hp
    rcases hp with rfl | hp
    · exact a2
    · exact b2 p hp

theorem fold_get (off : Nat) : ∀ (xs : List Value) (k : Nat) (cs : Array Value) (j : Nat),
    ((xs.zipIdx k).foldl (fun cs (c, j) => cs.setIfInBounds (off + j) c) cs)[j]? = if off + k ≤ j ∧ j < off + k + xs.length ∧ j < cs.size then xs[j - (off + k)]? else cs[j]?
  | [], k, cs, j => by simp; intro a b; omega
  | x :: xs, k, cs, j => by
    simp only [List.zipIdx_cons, List.foldl_cons]
    rw [fold_get off xs (k + 1)]
    simp only [Array.size_setIfInBounds, Array.getElem?_setIfInBounds, List.length_cons]
    by_cases h1 : off + (k + 1) ≤ j ∧ j < off + (k + 1) + xs.length ∧ j < cs.size
    · rw [if_pos h1, if_pos (by omega)]
      have : j - (off + k) = (j - (off + (k + 1))) + 1 := by omega
      rw [this, List.getElem?_cons_succ]
    · rw [if_neg h1]
      by_cases h2 : off + k = j
      · subst h2
        rw [if_pos rfl]
        by_cases h3 : off + k < cs.size
        · rw [if_pos h3, if_pos (by omega)]; simp
        · rw [if_neg h3, if_neg (by omega)]; simp; omega
      · rw [if_neg h2, if_neg (by omega)]
theorem fold_set (xs : List Value) (off : Nat) (cs : Array Value) (hle : off + xs.length ≤ cs.size) :
    ((xs.zipIdx 0).foldl (fun cs (c, j) => cs.setIfInBounds (off + j) c) cs) = (cs.toList.take off ++ xs ++ cs.toList.drop (off + xs.length)).toArray := by
  apply Array.ext_getElem?
  intro j
  rw [fold_get]
  simp only [Nat.add_zero, List.getElem?_toArray, List.append_assoc, List.getElem?_append, List.length_take, List.getElem?_take, List.getElem?_drop, Array.length_toList]
  by_cases h1 : j < off
  · rw [if_neg (by omega), if_pos (by omega), if_pos h1]; simp
  · rw [if_neg (by omega : ¬ j < min off cs.size)]
    have m : min off cs.size = off := by omega
    rw [m]
    by_cases h2 : j - off < xs.length
    · rw [if_pos (by omega), if_pos h2]
    · rw [if_neg (by omega), if_neg h2]
      simp only [Array.getElem?_toList]
      congr 1; omega

theorem fillA_den {place : Nat → Option (Nat × Nat)} : ∀ {ps : List (Nat × AV)} {cells out : List AV}, fillA place cells ps = some out → wfL σ cells → (∀ p ∈ ps, wf σ p.2) →
    Instr.fill place (denL σ cells).toArray (ps.map fun p => (p.1, den σ p.2)) = some (denL σ out).toArray ∧ wfL σ out
  | [], cells, out, h, hw, hp => by simp [fillA] at h; subst h; exact ⟨rfl, hw⟩
  | (i, x) :: rest, cells, out, h, hw, hp => by
    simp only [fillA] at h
    split at h <;> try simp at h
    rename_i off size xs hpl hxs
    obtain ⟨⟨hsz, hle⟩, h⟩ := h
    have hxw := cs_wf hxs (hp (i, x) (by simp))
    have hxd := cs_den (σ := σ) hxs
    have hw2 : wfL σ (cells.take off ++ xs ++ cells.drop (off + xs.length)) := by
      rw [wfL_iff] at *
      intro y hy
      simp only [List.mem_append] at hy
      rcases hy with (hy | hy) | hy
      · exact hw y (List.mem_of_mem_take hy)
      · exact hxw y hy
      · exact hw y (List.mem_of_mem_drop hy)
    obtain ⟨k1, k2⟩ := fillA_den (place := place) (by simpa using h) hw2 (fun p hp' => hp p (by simp [hp']))
    refine ⟨?_, k2⟩
    simp only [List.map_cons, Instr.fill, hpl, hxd]
    rw [if_neg (by simp; omega)]
    rw [← k1]
    congr 1
    have := fold_set (denL σ xs) off (denL σ cells).toArray (by simp; omega)
    rw [show (denL σ xs).toArray.zipIdx = ((denL σ xs).zipIdx 0).toArray by simp, List.foldl_toArray', this]
    · simp [denL_map]
    · simp

theorem blk_cell (hr : RelH P σ g w) {b : Nat} {o : AObj} (hd : σ.dom b) (ho : g[b]? = some o) (hl : o.live = true) (hrow : o.row = true) {i : Nat} {v : Value} (hv : (denO σ o)[i]? = some v) :
    w.cell? ⟨σ.at_ b, (σ.loc b).off + i, none⟩ = some v := by
  have hb := hr.blk b o hd ho hl
  have hi : i < o.len := by have := (List.getElem?_eq_some_iff.1 hv).1; simpa using this
  have hlen := hb.len
  have hle := hb.le
  obtain ⟨ob, h1, h2⟩ := hb.rep (by omega)
  obtain ⟨a, t, fr, rfl, -, -, h4⟩ := (Rep.row hrow).1 h2
  rw [cell_of_heap h1]; exact h4 i v hv

theorem boolOf_den {x : AV} {b : Bool} (h : boolOf x = some b) : den σ x = .bool b := by
  unfold boolOf at h
  split at h <;> simp at h <;> subst h <;> rfl

theorem intA_sound {op : BinOp} {k : IntKind} {a b : Int} {v : AV} {cs : List Prop} (h : intA op k a b = some (v, cs)) (hc : All cs) (t : TypeId) (x y : Operand) :
    (do eqGuard op t x y (.int k a) (.int k b); binOp op t (.int k a) (.int k b)).run P w = .ok (den σ v) w ∧ wf σ v := by
  cases op <;> simp only [intA, Option.some.injEq, Prod.mk.injEq, reduceCtorEq] at h <;> obtain ⟨rfl, rfl⟩ := h <;> refine ⟨?_, trivial⟩
  case quo => have : b ≠ 0 := hc.1; simp [binOp, Op.intDiv, this, den, go_sem]
  case rem => have : b ≠ 0 := hc.1; simp [binOp, Op.intDiv, this, den, go_sem]
  all_goals first | rfl | simp [binOp, Op.intArith, Op.intCmp, Op.intBits, den, go_sem, bits]

theorem bytesLess_le : ∀ x y : List UInt8, (Op.bytesLess x y || x == y) = !Op.bytesLess y x
  | [], [] => by simp [Op.bytesLess]
  | [], _ :: _ => by simp [Op.bytesLess]
  | _ :: _, [] => by simp [Op.bytesLess]
  | a :: x, b :: y => by
    have ih := bytesLess_le x y
    simp only [Op.bytesLess]
    by_cases h1 : a < b
    · have h2 : ¬ b < a := fun h => by have := UInt8.lt_asymm h1 h; exact this
      have h3 : b ≠ a := fun h => by subst h; exact UInt8.lt_irrefl _ h1
      simp [h1, h2, h3]
    · by_cases h2 : b < a
      · have h3 : a ≠ b := fun h => by subst h; exact UInt8.lt_irrefl _ h2
        simp [h1, h2, h3]
      · have h3 : a = b := UInt8.le_antisymm (UInt8.not_lt.1 h2) (UInt8.not_lt.1 h1)
        subst h3
        simp only [h1, decide_false, Bool.false_or, beq_self_eq_true, Bool.true_and]
        rw [← ih]
        congr 1
        simp [BEq.beq, List.beq]
theorem strA_sound {op : BinOp} {a b : ByteArray} {v : AV} {cs : List Prop} (h : strA op a b = some (v, cs)) (hc : All cs) (t : TypeId) (x y : Operand) :
    (do eqGuard op t x y (.string a) (.string b); binOp op t (.string a) (.string b)).run P w = .ok (den σ v) w ∧ wf σ v := by
  cases op <;> simp only [strA, Option.some.injEq, Prod.mk.injEq, reduceCtorEq] at h <;> obtain ⟨rfl, rfl⟩ := h <;> refine ⟨?_, trivial⟩
  case add =>
    have := run_string_add_sum (P := P) w a b hc.1
    have h1 : a.size + b.size ≤ 9223372036854775807 := hc.1
    simp only [binOp, den, sadd, eqGuard_at_string]
    simpa using this
  all_goals first
    | (simp [binOp, Op.stringOp, den, eqGuard_at_string, beq_toListBytes]; done)
    | (simp [binOp, Op.stringOp, den, eqGuard_at_string, beq_toListBytes, sltS]; done)
    | (simp [binOp, Op.stringOp, den, eqGuard_at_string, sltS, bytesLess_le]; done)
end
end Go.Abs
