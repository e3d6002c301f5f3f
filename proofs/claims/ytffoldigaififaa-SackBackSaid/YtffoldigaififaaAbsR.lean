import Derived.Test.YtffoldigaififaaAbsQ
set_option linter.unusedVariables false
set_option linter.unusedSimpArgs false
namespace Go.Abs

/-- operation k of the region is done -/
def Lst (l : Array Bool) (k : Nat) : Prop := l[k]? = some true

theorem ready_mem {ops : Array Oper} {l : Array Bool} {k : Nat} (hs : l.size = ops.size) (hk : k ∈ Region.ready .any ops l) :
    ∃ o, ops[k]? = some o ∧ ¬ Lst l k ∧ ∀ e ∈ o.after.toList, Region.binds .any e = true → Lst l e.on := by
  unfold Region.ready at hk
  rw [List.mem_filter] at hk
  obtain ⟨h1, h2⟩ := hk
  rw [Bool.and_eq_true] at h2
  obtain ⟨h3, h4⟩ := h2
  have hlt : k < ops.size := by simpa using h1
  refine ⟨ops[k], Array.getElem?_eq_getElem hlt, ?_, fun e he hb => ?_⟩
  · intro hl
    unfold Lst at hl
    rw [Array.getD_eq_getD_getElem?, hl] at h3
    simp at h3
  · rw [Array.getElem?_eq_getElem hlt] at h4
    simp only [Option.map_some, Option.getD_some] at h4
    rw [Array.all_eq_true'] at h4
    have := h4 e (by simpa using he)
    rw [hb] at this
    simp at this
    unfold Lst
    rcases h : l[e.on]? with _ | b
    · rw [h] at this; simp at this
    · rw [h] at this; simp at this; rw [this]
theorem ready_nil {ops : Array Oper} {l : Array Bool} (hs : l.size = ops.size) (hlow : ∀ k o, ops[k]? = some o → ∀ e ∈ o.after.toList, Region.binds .any e = true → e.on < k)
    (hr : Region.ready .any ops l = []) : ∀ k, k < ops.size → Lst l k := by
  intro k
  induction k using Nat.strongRecOn with
  | _ k ih =>
    intro hk
    refine Classical.byContradiction fun hn => ?_
    have hmem : k ∈ Region.ready .any ops l := by
      unfold Region.ready
      rw [List.mem_filter, Bool.and_eq_true]
      refine ⟨by simpa using hk, ?_, ?_⟩
      · have hkl : k < l.size := by omega
        unfold Lst at hn
        rw [Array.getD_eq_getD_getElem?]
        rcases h : l[k]? with _ | b
        · rw [Array.getElem?_eq_getElem hkl] at h; simp at h
        · cases b with
          | true => exact absurd h hn
          | false => rfl
      · rw [Array.getElem?_eq_getElem hk]
        simp only [Option.map_some, Option.getD_some]
        rw [Array.all_eq_true']
        intro e he
        by_cases hb : Region.binds .any e = true
        · have h1 := hlow k ops[k] (Array.getElem?_eq_getElem hk) e (by simpa using he) hb
          have h2 := ih e.on h1 (by omega)
          unfold Lst at h2
          simp [h2]
        · simp [hb]
    rw [hr] at hmem
    simp at hmem

theorem pre_closed {ops : Array Oper} {S : Nat → Prop} (hcl : ∀ k o, ops[k]? = some o → S k → ∀ e ∈ o.after.toList, Region.binds .any e = true → S e.on)
    (hlow : ∀ k o, ops[k]? = some o → ∀ e ∈ o.after.toList, Region.binds .any e = true → e.on < k) :
    ∀ k j o, ops[k]? = some o → (∀ e ∈ o.after.toList, Region.binds .any e = true → S e.on) → bef (masks ops.toList []) k j = true → S j ∧ j < k := by
  intro k
  induction k using Nat.strongRecOn with
  | _ k ih =>
    intro j o ho hpre hb
    unfold bef at hb
    obtain ⟨e, he, hbd, h1⟩ := masks_bit (acc := []) (l := ops.toList) (k := k) (j := j) (o := o) (by simpa using ho) (by simpa using hb)
    have hlt := hlow k o ho e he hbd
    rcases h1 with rfl | ⟨-, h2⟩
    · exact ⟨hpre e he hbd, hlt⟩
    · have hk : k < ops.size := (Array.getElem?_eq_some_iff.1 ho).1
      have hoe : ops[e.on]? = some ops[e.on] := Array.getElem?_eq_getElem (by omega)
      obtain ⟨h3, h4⟩ := ih e.on hlt j ops[e.on] hoe (fun e' he' hb' => hcl e.on _ hoe (hpre e he hbd) e' he' hb') h2
      exact ⟨h3, by omega⟩

section
variable {P : Program} {ops : Array Oper} {R : List DRec} {tm0 tmF : Tm} {h0 hF : List AObj}

structure Reg (P : Program) (ops : Array Oper) (R : List DRec) (tm0 tmF : Tm) (h0 hF : List AObj) : Prop where
  len : R.length = ops.size
  tm0 : tmAt R tmF 0 = tm0
  h0 : hAt R hF 0 = h0
  fact : ∀ (k : Nat) (o : Oper), ops[k]? = some o → ∃ r, R[k]? = some r ∧ Fact P ops o r (tmAt R tmF (k + 1)) (hAt R hF (k + 1))
  low : ∀ (k : Nat) (o : Oper), ops[k]? = some o → ∀ e ∈ o.after.toList, Region.binds .any e = true → e.on < k
  uniq : ∀ (k j : Nat) (a b : Oper) (t : Nat), ops[k]? = some a → ops[j]? = some b → k ≠ j → a.dst = some t → b.dst ≠ some t
  look : ∀ (k j : Nat) (a b : Oper) (t : Nat), ops[k]? = some a → ops[j]? = some b → k ≠ j → b.dst = some t → t ∈ looksL ops.toList a → bef (masks ops.toList []) k j = true ∨ bef (masks ops.toList []) j k = true
  evs : ∀ (k j : Nat) (a b : Oper) (rk rj : DRec), ops[k]? = some a → ops[j]? = some b → R[k]? = some rk → R[j]? = some rj → k ≠ j → rk.ev = true → rj.ev = true → faOp a.op = false → faOp b.op = false → bef (masks ops.toList []) k j = true ∨ bef (masks ops.toList []) j k = true
  wrs : ∀ (k j : Nat) (a : Oper) (rk rj : DRec), ops[k]? = some a → R[k]? = some rk → R[j]? = some rj → k ≠ j → rk.run = true → rj.wr = true → clsOp a.op ≠ 0 → faOp a.op = false → bef (masks ops.toList []) k j = true ∨ bef (masks ops.toList []) j k = true ∨ (clsOp a.op = 1 ∧ ∃ l, rj.ws = some l ∧ apart (keepT (looksL ops.toList a) 0 rk.tm) l = true) ∨ rdOk (hAt R hF 0).length rk.rd rj.ws true = true
  evc : ∀ (k j : Nat) (a b : Oper) (rk rj : DRec), ops[k]? = some a → ops[j]? = some b → R[k]? = some rk → R[j]? = some rj → k ≠ j → rk.run = true → rj.ev = true → clsOp a.op = 2 → faOp a.op = false → faOp b.op = false → bef (masks ops.toList []) k j = true ∨ bef (masks ops.toList []) j k = true ∨ rdOk (hAt R hF 0).length rk.rd rj.ws rj.wr = true
  fas : ∀ (k j : Nat) (a b : Oper) (rk rj : DRec), ops[k]? = some a → ops[j]? = some b → R[k]? = some rk → R[j]? = some rj → k ≠ j → rk.run = true → faOp a.op = true → rj.run = true → faOp b.op = false →
    bef (masks ops.toList []) k j = true ∨ bef (masks ops.toList []) j k = true ∨ ((rj.wr = false ∨ ∃ l, rj.ws = some l ∧ rk.h.length ∉ l) ∧ rk.h.length ∉ rj.ci)

theorem Reg.of_ok {orc orcF : List Orc} {cs : List Prop} (hd : drawGo P ops.toList ops.toList tm0 h0 orc = some (R, tmF, hF, orcF, cs)) (hc : All cs)
    (hok : drawOk ops.toList R (masks ops.toList []) = true) : Reg P ops R tm0 tmF h0 hF := by
  obtain ⟨f1, f2, f3, f4⟩ := drawGo_facts hd hc
  have hlen : R.length = ops.size := by simpa using f1
  have both : ∀ (k : Nat) (a : Oper), ops[k]? = some a → k < ops.size := fun k a h => (Array.getElem?_eq_some_iff.1 h).1
  have bothR : ∀ (k : Nat) (r : DRec), R[k]? = some r → k < ops.size := fun k r h => by rw [← hlen]; exact (List.getElem?_eq_some_iff.1 h).1
  unfold drawOk at hok
  rw [List.all_eq_true] at hok
  have atk : ∀ k a rk, ops[k]? = some a → R[k]? = some rk → a.after.toList.all (fun e => !Region.binds .any e || decide (e.on < k)) = true ∧
      ∀ j b rj, ops[j]? = some b → R[j]? = some rj → k ≠ j →
        (match a.dst, b.dst with | some x, some y => x != y | _, _ => true) = true ∧
        (match b.dst with | some d => !((looksL ops.toList a).any (fun t => t == d)) || bef (masks ops.toList []) k j || bef (masks ops.toList []) j k | none => true) = true ∧
        (!(rk.ev && rj.ev) || faOp a.op || faOp b.op || bef (masks ops.toList []) k j || bef (masks ops.toList []) j k) = true ∧
        (!rk.run || !rj.wr || clsOp a.op == 0 || faOp a.op || bef (masks ops.toList []) k j || bef (masks ops.toList []) j k || (clsOp a.op == 1 && (match rj.ws with | some l => apart (keepT (looksL ops.toList a) 0 rk.tm) l | none => false)) || rdOk (match R with | r0 :: _ => r0.h.length | [] => 0) rk.rd rj.ws true) = true ∧
        (!rk.run || !rj.ev || clsOp a.op != 2 || faOp a.op || faOp b.op || bef (masks ops.toList []) k j || bef (masks ops.toList []) j k || rdOk (match R with | r0 :: _ => r0.h.length | [] => 0) rk.rd rj.ws rj.wr) = true ∧
        (!rk.run || !faOp a.op || !rj.run || faOp b.op || bef (masks ops.toList []) k j || bef (masks ops.toList []) j k || ((!rj.wr || (match rj.ws with | some l => !l.contains rk.h.length | none => false)) && !rj.ci.contains rk.h.length)) = true := by
    intro k a rk ha hrk
    have := hok k (by simpa using both k a ha)
    have ha' : ops.toList[k]? = some a := by simpa using ha
    rw [ha', hrk] at this
    simp only [Bool.and_eq_true] at this
    refine ⟨this.1, fun j b rj hb hrj hne => ?_⟩
    have h2 := this.2
    rw [List.all_eq_true] at h2
    have h3 := h2 j (by simpa using both j b hb)
    have hb' : ops.toList[j]? = some b := by simpa using hb
    rw [hb', hrj] at h3
    have hne' : (k == j) = false := by simpa using hne
    rw [hne', Bool.false_or] at h3
    simp only [Bool.and_eq_true] at h3
    exact ⟨h3.1.1.1.1.1, h3.1.1.1.1.2, h3.1.1.1.2, h3.1.1.2, h3.1.2, h3.2⟩
  have getR : ∀ k, k < ops.size → ∃ r, R[k]? = some r := fun k hk => ⟨_, List.getElem?_eq_getElem (by omega)⟩
  have getO : ∀ k, k < ops.size → ∃ o, ops[k]? = some o := fun k hk => ⟨_, Array.getElem?_eq_getElem hk⟩
  have hn0 : ∀ {k : Nat} (rk : DRec), R[k]? = some rk → (match R with | r0 :: _ => r0.h.length | [] => 0) = (hAt R hF 0).length := by
    intro k rk hk
    cases hR : R with
    | nil => rw [hR] at hk; simp at hk
    | cons r0 l => simp [hAt]
  refine ⟨hlen, f2, f3, fun k o ho => f4 k o (by simpa using ho), ?_, ?_, ?_, ?_, ?_, ?_, ?_⟩
  · intro k o ho e he hb
    obtain ⟨r, hr⟩ := getR k (both k o ho)
    have := (atk k o r ho hr).1
    rw [List.all_eq_true] at this
    have := this e he
    rw [hb] at this
    simpa using this
  · intro k j a b t ha hb hne h1 h2
    obtain ⟨rk, hrk⟩ := getR k (both k a ha)
    obtain ⟨rj, hrj⟩ := getR j (both j b hb)
    have := ((atk k a rk ha hrk).2 j b rj hb hrj hne).1
    rw [h1, h2] at this
    simp at this
  · intro k j a b t ha hb hne h1 h2
    obtain ⟨rk, hrk⟩ := getR k (both k a ha)
    obtain ⟨rj, hrj⟩ := getR j (both j b hb)
    have := ((atk k a rk ha hrk).2 j b rj hb hrj hne).2.1
    rw [h1] at this
    have h3 : (looksL ops.toList a).any (fun x => x == t) = true := by rw [List.any_eq_true]; exact ⟨t, h2, by simp⟩
    simp only [h3] at this
    simpa using this
  · intro k j a b rk rj ha hb hrk hrj hne h1 h2 h3 h4
    have := ((atk k a rk ha hrk).2 j b rj hb hrj hne).2.2.1
    rw [h1, h2, h3, h4] at this
    simpa using this
  · intro k j a rk rj ha hrk hrj hne h1 h2 h3 hfa
    obtain ⟨b, hb⟩ := getO j (bothR j rj hrj)
    have := ((atk k a rk ha hrk).2 j b rj hb hrj hne).2.2.2.1
    have h4 : (clsOp a.op == 0) = false := by simpa using h3
    rw [h1, h2, h4, hfa] at this
    rw [hn0 rk hrk] at this
    simp only [Bool.not_true, Bool.false_or, Bool.or_eq_true] at this
    rcases this with ((h | h) | h) | h
    · exact .inl h
    · exact .inr (.inl h)
    · simp only [Bool.and_eq_true, beq_iff_eq] at h
      obtain ⟨h5, h6⟩ := h
      split at h6
      · rename_i l hw; exact .inr (.inr (.inl ⟨h5, l, hw, h6⟩))
      · simp at h6
    · exact .inr (.inr (.inr h))
  · intro k j a b rk rj ha hb hrk hrj hne h1 h2 h3 h4 h5
    have := ((atk k a rk ha hrk).2 j b rj hb hrj hne).2.2.2.2.1
    rw [h1, h2, h3, h4, h5, hn0 rk hrk] at this
    simp only [Bool.not_true, Bool.false_or, bne_self_eq_false, Bool.or_eq_true] at this
    rcases this with (h | h) | h
    · exact .inl h
    · exact .inr (.inl h)
    · exact .inr (.inr h)
  · intro k j a b rk rj ha hb hrk hrj hne h1 h2 h3 h4
    have := ((atk k a rk ha hrk).2 j b rj hb hrj hne).2.2.2.2.2
    rw [h1, h2, h3, h4] at this
    simp only [Bool.not_true, Bool.false_or, Bool.or_eq_true, Bool.and_eq_true] at this
    rcases this with (h | h) | ⟨h, h'⟩
    · exact .inl h
    · exact .inr (.inl h)
    · refine .inr (.inr ⟨?_, by simpa using h'⟩)
      rcases h with h | h
      · exact .inl (by simpa using h)
      · split at h
        · rename_i l hw; exact .inr ⟨l, hw, by simpa using h⟩
        · simp at h
end
end Go.Abs
