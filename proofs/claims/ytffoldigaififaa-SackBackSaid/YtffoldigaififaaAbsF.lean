import Derived.Test.YtffoldigaififaaAbsE
import Derived.LaidEqlPtr
set_option linter.unusedVariables false
set_option linter.unusedSimpArgs false
namespace Go.Abs
attribute [local simp] iadd isub imul iquo irem iand ior ixor iandn ishl ishr icv imax imin ieq ine ilt ile beqB notB seqS sadd slen sget nlen offN addN
section
variable {P : Program} {σ : Sg} {w : World}
theorem eqA_in {t : TypeId} {x y : AV} {b : Bool} (h : eqA P t x y = some b) (d : Nat) : (Op.equalIn (d + 1) t (den σ x) (den σ y)).run P w = .ok b w ∧
    ∀ op xo yo, eqGuard op t xo yo (den σ x) (den σ y) = pure () := by
  unfold eqA at h
  split at h <;> try simp at h
  all_goals
    rename_i hu
    split at h <;> try simp at h
    all_goals first
     | (split at h <;> simp at h; rename_i hj; obtain ⟨⟨rfl, rfl⟩, h⟩ := h; subst h; exact ⟨by simp [Op.equalIn, run_underlying hu, den, sizeOf, typeInfo, hj, run_sameAddr_same], fun op xo yo => by simp only [den]; exact eqGuard_at_pointer ..⟩)
     | (subst h
        refine ⟨?_, fun op xo yo => by simp only [den]; first | exact eqGuard_at_pointer .. | exact eqGuard_at_slice .. | exact eqGuard_at_func .. | exact eqGuard_at_nilFunc ..⟩
        simp [Op.equalIn, run_underlying hu, den])
theorem eqA_sound {t : TypeId} {x y : AV} {b : Bool} (h : eqA P t x y = some b) : (Op.equal t (den σ x) (den σ y)).run P w = .ok b w ∧
    ∀ op xo yo, eqGuard op t xo yo (den σ x) (den σ y) = pure () := eqA_in h 9999
theorem bool_in {t : TypeId} {a b : Bool} (hu : P.underlying t = some .bool) (d : Nat) : (Op.equalIn (d + 1) t (.bool a) (.bool b)).run P w = .ok (a == b) w := by
  simp [Op.equalIn, run_underlying hu]
theorem bool_eql {t : TypeId} {a b : Bool} (hu : P.underlying t = some .bool) : (binOp .eql t (.bool a) (.bool b)).run P w = .ok (.bool (a == b)) w ∧ (binOp .neq t (.bool a) (.bool b)).run P w = .ok (.bool (!(a == b))) w := by
  have h : (Op.equal t (.bool a) (.bool b)).run P w = .ok (a == b) w := bool_in hu 9999
  constructor <;> simp [binOp, h]

theorem binA_sound {op : BinOp} {t : TypeId} {x y : AV} {v : AV} {cs : List Prop} (h : binA P op t x y = some (v, cs)) (hc : All cs) (xo yo : Operand) :
    (do eqGuard op t xo yo (den σ x) (den σ y); binOp op t (den σ x) (den σ y)).run P w = .ok (den σ v) w ∧ wf σ v := by
  unfold binA at h
  split at h
  · rename_i k a k' b
    split at h
    · simp at h; obtain ⟨rfl, rfl⟩ := h
      have hb : 0 ≤ b := hc.1
      refine ⟨?_, trivial⟩
      have := shift_shl_any k k' a b hb
      simp [binOp, den, this, go_sem]
    · simp at h; obtain ⟨rfl, rfl⟩ := h
      have hb : 0 ≤ b := hc.1
      refine ⟨?_, trivial⟩
      have hp : (0 : Int) ≤ 2 ^ min b.toNat k.bits := Int.pow_nonneg (by decide)
      have : Op.shift .shr k a k' b = pure (.int k (a / 2 ^ min b.toNat k.bits)) := by
        simp [Op.shift, Int.fdiv_eq_ediv_of_nonneg _ hp]; omega
      simp [binOp, den, this, go_sem]
    · split at h
      · rename_i hk; subst hk
        exact intA_sound h hc t xo yo
      · simp at h
  · exact strA_sound h hc t xo yo
  · rename_i l m
    split at h <;> simp only [Option.map_eq_some_iff, reduceCtorEq, Prod.mk.injEq] at h
    · obtain ⟨b, hb, rfl, rfl⟩ := h
      obtain ⟨h1, h2⟩ := aggEqA_sound (σ := σ) (w := w) hb .eql xo yo
      refine ⟨?_, trivial⟩
      have : binOp .eql t (den σ (.agg l)) (den σ (.agg m)) = (do pure (.bool (← Op.equal t (den σ (.agg l)) (den σ (.agg m))))) := rfl
      rw [this]; simp only [Sem.run_bind, h2, Result.andThen_ok, h1, Sem.run_pure]; rfl
    · obtain ⟨b, hb, rfl, rfl⟩ := h
      obtain ⟨h1, h2⟩ := aggEqA_sound (σ := σ) (w := w) hb .neq xo yo
      refine ⟨?_, trivial⟩
      have : binOp .neq t (den σ (.agg l)) (den σ (.agg m)) = (do pure (.bool (!(← Op.equal t (den σ (.agg l)) (den σ (.agg m)))))) := rfl
      rw [this]; simp only [Sem.run_bind, h2, Result.andThen_ok, h1, Sem.run_pure]; rfl
  · split at h
    · rename_i hu
      split at h <;> try simp at h
      rename_i a b ha hb
      have e1 := boolOf_den (σ := σ) ha
      have e2 := boolOf_den (σ := σ) hb
      rw [e1, e2]
      obtain ⟨k1, k2⟩ := bool_eql (P := P) (w := w) (a := a) (b := b) hu
      split at h <;> simp only [Option.some.injEq, Prod.mk.injEq, reduceCtorEq] at h <;> obtain ⟨rfl, rfl⟩ := h
      · exact ⟨by rw [eqGuard_at_bool]; exact k1, trivial⟩
      · exact ⟨by rw [eqGuard_at_bool]; exact k2, trivial⟩
    · split at h <;> simp only [Option.map_eq_some_iff, reduceCtorEq, Prod.mk.injEq] at h
      · obtain ⟨b, hb, rfl, rfl⟩ := h
        obtain ⟨h1, h2⟩ := eqA_sound (σ := σ) (w := w) hb
        refine ⟨?_, trivial⟩
        rw [h2]
        have : binOp .eql t (den σ x) (den σ y) = (do pure (.bool (← Op.equal t (den σ x) (den σ y)))) := by
          unfold eqA at hb
          split at hb <;> try simp at hb
          all_goals (split at hb <;> first | rfl | simp at hb)
        rw [this]; simp [h1, den]
      · obtain ⟨b, hb, rfl, rfl⟩ := h
        obtain ⟨h1, h2⟩ := eqA_sound (σ := σ) (w := w) hb
        refine ⟨?_, trivial⟩
        rw [h2]
        have : binOp .neq t (den σ x) (den σ y) = (do pure (.bool (!(← Op.equal t (den σ x) (den σ y))))) := by
          unfold eqA at hb
          split at hb <;> try simp at hb
          all_goals (split at hb <;> first | rfl | simp at hb)
        rw [this]; simp [h1, den]
end

section
variable {P : Program} {σ : Sg} {g h : List AObj} {w : World} {ρA : Operand → Option AV} {ρ : Operand → Value}

/-- What one operation leaves behind. -/
def Ran (P : Program) (σ : Sg) (n : Nat) (g : List AObj) (w : World) (ρ : Operand → Value) (o : Oper) (r : Res) : Prop :=
  ∃ nx w' v', (execOp ρ o).run P w = .ok nx w' ∧ (nx = .value v' ∨ (nx = .skip ∧ v' = undef)) ∧ Post P σ n g w r.val r.news r.upd v' w'

theorem ran_pure {n : Nat} (hr : RelH P σ g w) {o : Oper} {v : AV} {cs : List Prop} (hv : wf σ v) (he : (execOp ρ o).run P w = .ok (.value (den σ v)) w) :
    Ran P σ n g w ρ o { val := v, cs := cs } := ⟨_, _, _, he, .inl rfl, post_pure hr hv⟩

theorem repL_den {σ : Sg} (zs : List AV) : ∀ n, denL σ (repL zs n) = ((List.range (n * zs.length)).map fun i => (denL σ zs)[i % zs.length]!)
  | 0 => by simp [repL, denL]
  | n + 1 => by
    have happ : ∀ a b : List AV, denL σ (a ++ b) = denL σ a ++ denL σ b := fun a b => by simp [denL_map]
    rw [repL, happ, repL_den zs n, Nat.succ_mul, Nat.add_comm (n * zs.length), List.range_add, List.map_append]
    congr 1
    · apply List.ext_getElem?
      intro i
      by_cases hi : i < zs.length
      · rw [List.getElem?_map, List.getElem?_range hi]
        simp [Nat.mod_eq_of_lt hi, hi]
      · rw [List.getElem?_eq_none (by simp; omega), List.getElem?_eq_none (by simp; omega)]
    · simp [List.map_map, Function.comp_def, Nat.add_mod_left]
theorem repL_length (zs : List AV) : ∀ n, (repL zs n).length = n * zs.length
  | 0 => by simp [repL]
  | n + 1 => by simp [repL, repL_length zs n, Nat.succ_mul, Nat.add_comm]
theorem repL_wf {σ : Sg} {zs : List AV} (h : wfL σ zs) : ∀ n, wfL σ (repL zs n)
  | 0 => trivial
  | n + 1 => by
    have := repL_wf h n
    rw [wfL_iff] at *
    intro x hx
    simp only [repL, List.mem_append] at hx
    rcases hx with hx | hx
    · exact h x hx
    · exact this x hx
theorem fillA_length {place : Nat → Option (Nat × Nat)} : ∀ {ps : List (Nat × AV)} {cells out : List AV}, fillA place cells ps = some out → out.length = cells.length
  | [], cells, out, h => by simp [fillA] at h; subst h; rfl
  | (i, x) :: rest, cells, out, h => by
    simp only [fillA] at h
    split at h <;> try simp at h
    rename_i off size xs hpl hxs
    obtain ⟨⟨hsz, hle⟩, h⟩ := h
    rw [fillA_length (place := place) (cells := cells.take off ++ xs ++ cells.drop (off + xs.length)) (by simpa using h)]
    simp; omega
end
end Go.Abs
