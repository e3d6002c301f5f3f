import Derived.Test.YtnejcdinieaemaaDoorTrV
/- Numbers, told over the abstract heap. -/
set_option linter.all false
namespace Go.Proofs.YtnejcdinieaemaaDoor.Tr
open Go.Abs Go.RowKit
def fS (x : Int) : ByteArray := ⟨(Lib.itoa x).toArray⟩
def nS (l : List Int) : ByteArray := ⟨(numL Lib.itoa l).toArray⟩
def smX (x : Int) : Bool := decide (-9223372036854775808 ≤ x ∧ x ≤ 9223372036854775807)
def smL (l : List Int) : Bool := decide (l.length ≤ 1000) && l.all smX
theorem g25 (x : Int) (h : smX x = true) : ACalls Tryd.prog 25 [.v (.int .i64 x), .v (.int .i64 10)] [] (.v (.string (fS x))) [] [] :=
  .text ⟨_, rfl, by kernel_rfl, by kernel_rfl⟩ fun σ W ha => fmt_all W (tab_of ha) W (Below.refl _ _) x (of_decide_eq_true h)
theorem g26 (w : Bool) (l : List Int) (h : smL l = true) : ACalls Tryd.prog 26 [.sw 0 1] [.ints 0 w .i64 l] (.v (.string (nS l))) [] [] := by
  unfold smL at h
  rw [Bool.and_eq_true, decide_eq_true_eq, List.all_eq_true] at h
  obtain ⟨h1, h2⟩ := h
  have h3 : ∀ x ∈ l, -9223372036854775808 ≤ x ∧ x ≤ 9223372036854775807 := fun x hx => of_decide_eq_true (h2 x hx)
  refine ⟨⟨_, rfl, by kernel_rfl, by kernel_rfl⟩, fun σ W hf hr hw => ?_⟩
  have hd : σ.dom 0 := hw.1.1
  have hb := hr.blk 0 _ hd rfl rfl
  have hlen : (σ.loc 0).len = l.length := hb.len.symm
  have ha : (denL σ [.sw 0 1]).toArray = #[.slice ((σ.loc 0).base 0) l.length ((σ.loc 0).cap)] := by simp [denL, den, hlen]
  rw [ha]
  refine (numbers_c (fmt := Lib.itoa) (S := fun x => -9223372036854775808 ≤ x ∧ x ≤ 9223372036854775807) _ (σ.at_ 0) (σ.loc 0).off (σ.loc 0).cap l W (fmt_all W (tab_of hr.amb)) (fun x hx => ⟨h3 x hx, Lib.itoa_length_le x (h3 x hx).1 (h3 x hx).2⟩) (fun j x hx => ?_) (fun hne => ?_) (by omega) (by have := hb.le; omega)).mono fun e w' ⟨q1, q2⟩ => ⟨[], rfl, q1, trivial, by rw [Sg.more_nil]; exact went_below hr hf q2⟩
  · exact blk_cell hr hd (o := .ints 0 w .i64 l) rfl rfl rfl (by simp [denO, hx])
  · have hl : 0 < l.length := List.length_pos_iff.2 hne
    have hc : 0 < (σ.loc 0).cap := by have := hb.le; omega
    have hnil : (σ.loc 0).nil = false := by
      cases hq : (σ.loc 0).nil with
      | false => rfl
      | true => have := hb.nil hq; omega
    exact ⟨by simp [Loc.base, hnil], hr.img_lt ⟨0, _, hd, rfl, rfl, hc, rfl⟩⟩
end Go.Proofs.YtnejcdinieaemaaDoor.Tr
