import Derived.Test.YtffoldigaififaaAbsJg
import Derived.Test.YtffoldigaififaaAbsQ
set_option linter.unusedVariables false
set_option linter.unusedSimpArgs false
namespace Go.Abs
/-- what is written was there -/
def UpLt (h : List AObj) (r : Res) : Prop := ∀ p ∈ r.upd, p.1 < h.length
theorem upNil {h : List AObj} {r : Res} (e : r.upd = []) : UpLt h r := fun p hp => by rw [e] at hp; simp at hp
theorem upOne {h : List AObj} {r : Res} {b : Nat} {o o' : AObj} (ho : h[b]? = some o) (e : r.upd = [(b, o')]) : UpLt h r := fun p hp => by
  rw [e] at hp; simp at hp; subst hp; exact (List.getElem?_eq_some_iff.1 ho).1
theorem appA_up {P : Program} {h : List AObj} {t : TypeId} {x y : AV} {r : Res} (hx : appA P h t x y = some r) : UpLt h r := by
  unfold appA at hx
  repeat' (split at hx)
  all_goals first
    | (simp at hx; done)
    | (simp at hx; subst hx; exact upNil rfl)
    | (simp at hx; subst hx; exact upOne ‹_› rfl)
theorem copyA_up {P : Program} {h : List AObj} {t : TypeId} {x y : AV} {r : Res} (hx : copyA P h t x y = some r) : UpLt h r := by
  unfold copyA at hx
  repeat' (split at hx)
  all_goals first
    | (simp at hx; done)
    | (simp at hx; subst hx; exact upNil rfl)
    | (simp at hx; subst hx; exact upOne ‹_› rfl)
theorem builtA_up {P : Program} {h : List AObj} {b : Builtin} {ts : List TypeId} {args : List AV} {r : Res} (hx : builtA P h b ts args = some r) : UpLt h r := by
  unfold builtA at hx
  repeat' (split at hx)
  all_goals first
    | (simp at hx; done)
    | (simp at hx; subst hx; exact upNil rfl)
    | exact appA_up hx
    | exact copyA_up hx
theorem cutA_up {h : List AObj} {kp : Bool} {b s z off n : Nat} {c : Option Nat} {lo hi mx : Option Int} {r : Res} (hx : cutA h kp b s z off n c lo hi mx = some r) : UpLt h r := by
  unfold cutA at hx
  repeat' (split at hx)
  all_goals first
    | (simp at hx; done)
    | (simp at hx; subst hx; exact upNil rfl)
theorem sliceA_up {P : Program} {h : List AObj} {t : TypeId} {x : AV} {lo hi mx : Option Int} {r : Res} (hx : sliceA P h t x lo hi mx = some r) : UpLt h r := by
  unfold sliceA at hx
  repeat' (split at hx)
  all_goals first
    | (simp at hx; done)
    | exact cutA_up hx
    | (simp at hx; subst hx; exact upNil rfl)
    | (simp at hx; obtain ⟨-, rfl⟩ := hx; exact upNil rfl)
theorem makeA_up {P : Program} {h : List AObj} {t : TypeId} {l c : Int} {r : Res} (hx : makeA P h t l c = some r) : UpLt h r := by
  unfold makeA at hx
  repeat' (split at hx)
  all_goals first
    | (simp at hx; done)
    | (simp at hx; subst hx; exact upNil rfl)
theorem convA_up {P : Program} {h : List AObj} {src dst : TypeId} {x : AV} {r : Res} (hx : convA P h src dst x = some r) : UpLt h r := by
  unfold convA at hx
  repeat' (split at hx)
  all_goals first
    | (simp at hx; done)
    | (simp at hx; subst hx; exact upNil rfl)
    | (simp at hx; obtain ⟨-, rfl⟩ := hx; exact upOne ‹_› rfl)
theorem opA_up {P : Program} {ρ : Operand → Option AV} {h : List AObj} {op : Op} {r : Res} (hx : opA P ρ h op = some r) : UpLt h r := by
  unfold opA at hx
  repeat' (split at hx)
  all_goals first
    | (simp at hx; done)
    | (simp only [Option.map_eq_some_iff] at hx; obtain ⟨_, _, rfl⟩ := hx; exact upNil rfl)
    | (simp at hx; subst hx; exact upNil rfl)
    | (simp at hx; subst hx; exact upOne ‹_› rfl)
    | exact builtA_up hx
    | exact sliceA_up hx
    | exact makeA_up hx
    | exact convA_up hx
    | exact upNil (elemA_quiet hx).2
theorem makeA_len {P : Program} {h g : List AObj} {t : TypeId} {l c : Int} (hl : h.length = g.length) : makeA P h t l c = makeA P g t l c := by
  unfold makeA; rw [hl]
theorem faOp_len {P : Program} {ρ : Operand → Option AV} {h g : List AObj} {op : Op} (hf : faOp op = true) (hl : h.length = g.length) : opA P ρ h op = opA P ρ g op := by
  cases op <;> simp [faOp] at hf
  all_goals first
    | (simp only [opA]; rw [hl]; done)
    | (simp only [opA]; split <;> first | rfl | exact makeA_len hl)
/-- one operation, where not all blocks are there yet -/
theorem opG_went {P : Program} {σ : Sg} {h G : List AObj} {w : World} {ρA : Operand → Option AV} {ρ : Operand → Value} {o : Oper} {r : Res} (hr : RelH P σ G w)
    (hρ : ∀ x v, ρA x = some v → ρ x = den σ v ∧ wf σ v) (hop : opA P ρA h o.op = some r) (hcs : All r.cs) (hpre : ∀ b, b < h.length → G[b]? = h[b]?)
    (hfree : ∀ b, h.length ≤ b → b < (applyUpd r.upd (h ++ r.news)).length → ¬ σ.dom b) (hbirth : ∀ b, h.length ≤ b → b < (applyUpd r.upd (h ++ r.news)).length → G[b]? = (applyUpd r.upd (h ++ r.news))[b]?) :
    ∃ nx w' v' σ' G', (execOp ρ o).run P w = .ok nx w' ∧ (nx = .value v' ∨ (nx = .skip ∧ v' = undef)) ∧ v' = den σ' r.val ∧ wf σ' r.val ∧ Ext σ σ' ∧ (∀ b, b < h.length → σ'.loc b = σ.loc b) ∧
      (∀ b, σ'.dom b ↔ σ.dom b ∨ (h.length ≤ b ∧ b < (applyUpd r.upd (h ++ r.news)).length)) ∧ PW P σ G w σ' G' w' ∧
      (∀ b, b < (applyUpd r.upd (h ++ r.news)).length → G'[b]? = (applyUpd r.upd (h ++ r.news))[b]?) ∧ (∀ b, (applyUpd r.upd (h ++ r.news)).length ≤ b → G'[b]? = G[b]?) := by
  have hup := opA_up hop
  have hl : (applyUpd r.upd (h ++ r.news)).length = h.length + r.news.length := by simp
  have hat : ∀ b, h.length ≤ b → (applyUpd r.upd (h ++ r.news))[b]? = r.news[b - h.length]? := fun b hb => by
    rw [applyUpd_out (fun p hp e => by have := hup p hp; omega), List.getElem?_append_right hb]
  have hGn : ∀ c, c < (h ++ r.news).length → G[c]? = (h ++ r.news)[c]? := fun c hc => by
    rw [List.length_append] at hc
    by_cases h1 : c < h.length
    · rw [List.getElem?_append_left h1]; exact hpre c h1
    · rw [hbirth c (by omega) (by omega), hat c (by omega), List.getElem?_append_right (by omega)]
  obtain ⟨nx, w', v', h1, h2, rs, p1, p2, p3, p4, p5, p6, p7⟩ := op_sound (g := G) (h := h) hr
    (fun b o ho => by rw [hpre b (List.getElem?_eq_some_iff.1 ho).1]; exact ho) hρ hop hcs
    (fun j x hx => by
      have hj := (List.getElem?_eq_some_iff.1 hx).1
      rw [hbirth _ (by omega) (by omega), hat _ (by omega), show h.length + j - h.length = j by omega]; exact hx) (fun j hj => hfree _ (by omega) (by omega))
  refine ⟨nx, w', v', σ.more h.length rs, applyUpd r.upd G, h1, h2, p2, p3, Sg.more_ext _ _ _ (fun b k1 k2 => hfree b k1 (by omega)), fun b hb => Sg.more_lt _ _ hb, fun b => ?_, ⟨p4, p5, p6, p7⟩, fun b hb => ?_, fun b hb => ?_⟩
  · rw [hl, ← p1]; exact Iff.rfl
  · exact applyUpd_agree (by rw [applyUpd_length] at hb; exact hb) hGn
  · exact applyUpd_out (fun p hp e => by have := hup p hp; omega)
theorem faOp_news {P : Program} {ρ : Operand → Option AV} {h : List AObj} {op : Op} {r : Res} (hf : faOp op = true) (hx : opA P ρ h op = some r) : r.upd = [] ∧ ∃ o, r.news = [o] := by
  cases op <;> simp [faOp] at hf <;> simp only [opA, makeA] at hx
  all_goals
    repeat' (split at hx)
    all_goals first
      | (simp at hx; done)
      | (simp at hx; subst hx; exact ⟨rfl, _, rfl⟩)
end Go.Abs
