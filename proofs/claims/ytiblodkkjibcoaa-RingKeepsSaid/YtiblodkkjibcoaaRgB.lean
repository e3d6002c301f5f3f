import Derived.Test.YtiblodkkjibcoaaRgA
import Derived.Test.YtiblodkkjibcoaaAbsRf
import Derived.WalkKit
import Derived.OwnWalkIn
import Derived.TacticsInMore
import Derived.LoopNIn
import Derived.LoopIn
import Derived.Shelf.Abstract
/- The row's iterator. -/
set_option linter.all false
namespace Go.Proofs.Ytiblodkkjibcoaa.Ring
open Go.Abs Go.RowKit Go.Shelf Go.Proofs
/-- a fact that the walk does not look into -/
def Kept (p : Prop) : Prop := p
def hcR (l : List Int) (a n k : Int) : List AObj := [.cells 0 false [.sw 1 1, .v (.int .i64 a), .v (.int .i64 n), .v (.int .i64 k)], .ints 0 false .i64 l, .cells 0 false [.ptr 0 0]]
theorem at_fact (l : List Int) (a n k i : Int) (h : okR l a n k = true) : ACalls Try.prog 22 [AV.ptr 0 0, AV.v (.int .i64 i)] [AObj.cells 0 false [AV.sw 1 1, AV.v (.int .i64 a), AV.v (.int .i64 n), AV.v (.int .i64 k)], AObj.ints 0 false .i64 l] (AV.tup [AV.v (.int .i64 (aV l a n i)), AV.v (Value.bool (aB n i))]) [] [] := by
  have := ro22 false false l a n k i (fun h1 h2 => nzN (s22 h h1 h2).1) (fun h1 h2 => by rw [(s22 h h1 h2).2.2.2]; exact (inN (s22 h h1 h2).1).1) (fun h1 h2 => by rw [(s22 h h1 h2).2.2.2]; exact (inN (s22 h h1 h2).1).2)
  have e0 : ro22r0 false false l a n k i = aV l a n i := by
    unfold ro22r0 aV
    cases h1 : ilt i 0 with
    | true => simp only [ilt_d, decide_eq_true_eq] at h1; rw [if_neg (by omega)]; rfl
    | false =>
      cases h2 : ile n i with
      | true => simp only [ile_d, decide_eq_true_eq] at h2; rw [if_neg (by omega)]; rfl
      | false =>
        have := s22 h h1 h2
        rw [if_pos ⟨this.2.1, this.2.2.1⟩]
        simp only [cond_false]
        rw [this.2.2.2]
        unfold getI idxN; rw [Int.toNat_natCast, Nat.zero_add]
  have e1 : ro22r1 false false l a n k i = aB n i := by
    unfold ro22r1 aB
    cases h1 : ilt i 0 <;> cases h2 : ile n i <;> simp only [ilt_d, ile_d, decide_eq_true_eq, decide_eq_false_iff_not] at h1 h2 <;> simp [cond] <;> omega
  rw [e0, e1] at this; exact this
set_option maxRecDepth 100000 in
set_option maxHeartbeats 4000000 in
theorem all_y (l : List Int) (a n k : Int) (h : okR l a n k = true) : AYields Try.prog 31 [.ptr 2 0] (hcR l a n k) (fun x : Int => [.int .i64 x]) (itR l a n) n.toNat := by
  refine ⟨⟨_, Try.func31, by kernel_rfl, by kernel_rfl⟩, fun σ w hf hr hw q J Jx W hb hJ hJx hY h0 => ?_⟩
  have hrW := hr.below hb
  have hk := okR_iff.1 h
  have d0 : σ.dom 0 := (hf 0).2 (show 0 < 3 by decide)
  have d2 : σ.dom 2 := (hf 2).2 (show 2 < 3 by decide)
  have e14 : ∀ args w, (callFunc 14 args).run Try.prog w = .ok (.enter 14 args) w := enters_of Try.func14 (by kernel_rfl) rfl
  have e22 : ∀ args w, (callFunc 22 args).run Try.prog w = .ok (.enter 22 args) w := enters_of Try.func22 (by kernel_rfl) rfl
  have two : ∀ {W' : World}, RelH Try.prog σ (hcR l a n k) W' → ∃ σ' : Sg, Full σ' [AObj.cells 0 false [.sw 1 1, .v (.int .i64 a), .v (.int .i64 n), .v (.int .i64 k)], .ints 0 false .i64 l] ∧ RelH Try.prog σ' [AObj.cells 0 false [.sw 1 1, .v (.int .i64 a), .v (.int .i64 n), .v (.int .i64 k)], .ints 0 false .i64 l] W' ∧ σ'.dom 0 ∧ den σ' (.ptr 0 0) = den σ (.ptr 0 0) := fun {W'} hr' => by
    refine ⟨σ.via [0, 1], fun b => Iff.rfl, hr'.via (fun b hb => (hf b).2 (by simp at hb; rcases hb with rfl | rfl; exact (show 0 < 3 by decide); exact (show 1 < 3 by decide))) (by decide) (by kernel_rfl), (show 0 < 2 by decide), rfl⟩
  have hcell : ∀ {W' : World}, RelH Try.prog σ (hcR l a n k) W' → W'.cell? ⟨σ.at_ 2, (σ.loc 2).off + 0, none⟩ = some (den σ (.ptr 0 0)) := fun hr' =>
    blk_cell hr' d2 (o := .cells 0 false [.ptr 0 0]) rfl rfl rfl (i := 0) rfl
  show CallsIn Fence.wide 3 Try.prog 31 #[.func (.yield q) #[] #[], .pointer (some ⟨σ.at_ 2, (σ.loc 2).off + 0, none⟩)] W _
  generalize hv : den σ (.ptr 0 0) = pv at two hcell
  generalize (σ.loc 2).off + 0 = oo at hcell ⊢
  generalize σ.at_ 2 = bb at hcell ⊢
  have c14 : ∀ {W' : World}, RelH Try.prog σ (hcR l a n k) W' → J [] W' → CallsIn Fence.wide 2 Try.prog 14 #[pv] W' fun e W2 => e = .returned (.int .i64 n) ∧ RelH Try.prog σ (hcR l a n k) W2 ∧ J [] W2 := fun {W'} hr' hj => by
    obtain ⟨σ', f1, f2, f3, f4⟩ := two hr'
    have := (ro14 false false l a n k).quiet rfl f1 f2 (σ := σ') ⟨f3, trivial⟩
    rw [show (denL σ' [.ptr 0 0]).toArray = #[pv] by show #[den σ' (.ptr 0 0)] = _; rw [f4]] at this
    refine this.mono ?_
    rintro e W2 ⟨rfl, -, hg, -⟩
    exact ⟨rfl, hr'.grown rfl hg (fun r e => by simp at e), hJ _ _ _ _ hj hg (fun r e => by simp at e)⟩
  have c22 : ∀ {W' : World} {i : Int} {pre : List Int}, 0 ≤ i → i < n → RelH Try.prog σ (hcR l a n k) W' → J pre W' → CallsIn Fence.wide 2 Try.prog 22 #[pv, .int .i64 i] W' fun e W2 => e = .returned (.tuple #[.int .i64 (aV l a n i), .bool true]) ∧ RelH Try.prog σ (hcR l a n k) W2 ∧ J pre W2 := fun {W' i pre} hi1 hi2 hr' hj => by
    obtain ⟨σ', f1, f2, f3, f4⟩ := two hr'
    have := (at_fact l a n k i h).quiet rfl f1 f2 (σ := σ') ⟨f3, trivial, trivial⟩
    rw [show (denL σ' [.ptr 0 0, .v (.int .i64 i)]).toArray = #[pv, .int .i64 i] by show #[den σ' (.ptr 0 0), den σ' (.v (.int .i64 i))] = _; rw [f4]; rfl] at this
    refine this.mono ?_
    rintro e W2 ⟨rfl, -, hg, -⟩
    refine ⟨?_, hr'.grown rfl hg (fun r e => by simp at e), hJ _ _ _ _ hj hg (fun r e => by simp at e)⟩
    have : aB n i = true := decide_eq_true ⟨hi1, hi2⟩
    simp [den, denL, this]
  have hfn : ∀ f, Fence.wide.fn f := fun _ => trivial
  have hro : Fence.wide.round = none := rfl
  generalize Fence.wide = F at hY c14 c22 hfn hro ⊢
  have f14 := hfn 14
  have f22 := hfn 22
  refine callsIn_of_wp Try.func31 rfl (hfn 31) ?_ hro
  simp only [Try.ntmps31, List.size_toArray, List.length_cons, List.length_nil, Nat.reduceAdd, Nat.reduceSub, Array.replicate_succ, Array.replicate_zero, List.push_toArray, List.append_toArray, List.nil_append, List.cons_append]
  have hc0 := hcell hrW
  gi_wp2_with (gi_at_call 14; refine (c14 hrW h0).mono ?_; rintro e w1 ⟨rfl, hr1, hj1⟩)
  gi_loopw [8] (fun i wr => ∃ j : Nat, j ≤ n.toNat ∧ i = .int .i64 j ∧ Kept (RelH Try.prog σ (hcR l a n k) wr) ∧ Kept (J ((itR l a n).take j) wr)) (fun i _ => n.toNat - (intOf i).toNat)
  case atStart => exact ⟨0, Nat.zero_le _, rfl, hr1, hj1⟩
  case round =>
    obtain ⟨j, hj, rfl, HR, HJ⟩ := hrel
    have hlen := itR_len l a n
    by_cases hjn : j < n.toNat
    · have hv0 : aV l a n (j : Int) = (itR l a n)[j] := by
        rw [aV_it ⟨by omega, by omega⟩, Int.toNat_natCast, List.getD_eq_getElem?_getD, List.getElem?_eq_getElem (by omega)]; rfl
      have htk : (itR l a n).take j ++ [(itR l a n)[j]] = (itR l a n).take (j + 1) := by rw [List.take_succ_eq_append_getElem (by omega)]
      have hcr := hcell HR
      have hlt : ((j : Int) < n) := by omega
      gi_wp2_with (gi_at_call 22; refine (c22 (i := (j : Int)) (by omega) hlt HR HJ).mono ?_; rintro e w2 ⟨rfl, hr2, hj2⟩)
      obtain ⟨fn, tmps, assign, body, hy, hR⟩ := hY _ ((itR l a n)[j]) w2 hj2 (by rw [List.length_take]; omega)
      rw [hy, Oper.uponIn_round]
      refine ⟨fun _ => by decide, hR.mono ?_⟩
      rintro e W3 (⟨rfl, hJ3, hk3⟩ | ⟨rfl, hJx3⟩)
      · have hr3 : Kept (RelH Try.prog σ (hcR l a n k) W3) := hk3 hr2
        rw [htk] at hJ3
        gi_wp2
        go_roundw
        case rel => exact ⟨j + 1, by omega, by simp, hr3, hJ3⟩
        case measure => simp [intOf]; omega
      · rw [htk] at hJx3
        gi_wp2
        refine bodyPost_ret (results_none rfl _ _ _) rfl ?_
        exact ⟨⟨_, rfl⟩, .inr ⟨(itR l a n).take (j + 1), ⟨fun e => by have h9 := congrArg List.length e; rw [List.length_take, List.length_nil] at h9; omega, List.take_prefix _ _⟩, hJx3⟩⟩
    · have : j = n.toNat := by omega
      subst this
      have hge : ¬ (((n.toNat : Nat) : Int) < n) := by omega
      gi_wp2
      go_end0
      rw [List.take_of_length_le (by omega)] at HJ
      exact ⟨⟨_, rfl⟩, .inl HJ⟩
end Go.Proofs.Ytiblodkkjibcoaa.Ring
