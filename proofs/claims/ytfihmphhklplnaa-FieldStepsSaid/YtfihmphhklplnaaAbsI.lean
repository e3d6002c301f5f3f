import Derived.Test.YtfihmphhklplnaaAbsH
set_option linter.unusedVariables false
set_option linter.unusedSimpArgs false
/- Calls: a callee is run over the blocks that its arguments reach, under names of their own. -/
namespace Go.Abs

mutual
/-- renamed forward -/
def rn (m : Nat → Nat) : AV → AV
  | .b x => .b x
  | .v x => .v x
  | .ptr b o => .ptr (m b) o
  | .sl b o n c => .sl (m b) o n c
  | .fn f cs => .fn f (rnL m cs)
  | .agg l => .agg (rnL m l)
  | .tup l => .tup (rnL m l)
  | .ifc t x => .ifc t (rn m x)
def rnL (m : Nat → Nat) : List AV → List AV
  | [] => []
  | x :: l => rn m x :: rnL m l
end
def rnO (m : Nat → Nat) : AObj → AObj
  | .cells t w l => .cells t w (rnL m l)
  | o => o

def idx (b : Nat) : List Nat → Nat → Option Nat
  | [], _ => none
  | x :: l, k => if x = b then some k else idx b l (k + 1)
theorem idx_get {b : Nat} : ∀ {l : List Nat} {k c : Nat}, idx b l k = some c → k ≤ c ∧ l[c - k]? = some b
  | [], k, c, h => by simp [idx] at h
  | x :: l, k, c, h => by
    simp only [idx] at h
    split at h
    · simp at h; subst h; rename_i e; subst e; simp
    · obtain ⟨h1, h2⟩ := idx_get h
      refine ⟨by omega, ?_⟩
      have : c - k = (c - (k + 1)) + 1 := by omega
      rw [this, List.getElem?_cons_succ]; exact h2

mutual
/-- renamed back: block ι[c] becomes c -/
def inv (ι : List Nat) : AV → Option AV
  | .b x => some (.b x)
  | .v x => some (.v x)
  | .ptr b o => match idx b ι 0 with | some c => some (.ptr c o) | none => none
  | .sl b o n k => match idx b ι 0 with | some c => some (.sl c o n k) | none => none
  | .fn f cs => match invL ι cs with | some l => some (.fn f l) | none => none
  | .agg l => match invL ι l with | some l => some (.agg l) | none => none
  | .tup l => match invL ι l with | some l => some (.tup l) | none => none
  | .ifc t x => match inv ι x with | some y => some (.ifc t y) | none => none
def invL (ι : List Nat) : List AV → Option (List AV)
  | [] => some []
  | x :: l => match inv ι x, invL ι l with | some y, some m => some (y :: m) | _, _ => none
end
def invO (ι : List Nat) : AObj → Option AObj
  | .cells t w l => match invL ι l with | some l => some (.cells t w l) | none => none
  | o => some o
def invH (ι : List Nat) (h : List AObj) : List Nat → Option (List AObj)
  | [] => some []
  | b :: l => match h[b]? with
    | some o => match invO ι o, invH ι h l with
      | some o', some m => some (o' :: m)
      | _, _ => none
    | none => none

/-- σ seen through ι -/
def Sg.via (σ : Sg) (ι : List Nat) : Sg where
  at_ c := σ.at_ (ι.getD c 0)
  ext c := σ.ext (ι.getD c 0)
  dom c := c < ι.length

mutual
theorem inv_den {σ : Sg} {ι : List Nat} : ∀ {x y : AV}, inv ι x = some y → den (σ.via ι) y = den σ x ∧ wf (σ.via ι) y
  | .b x, y, h => by simp [inv] at h; subst h; exact ⟨rfl, trivial⟩
  | .v x, y, h => by simp [inv] at h; subst h; exact ⟨rfl, trivial⟩
  | .ptr b o, y, h => by
    simp only [inv] at h
    split at h <;> simp at h
    rename_i c hc
    subst h
    obtain ⟨-, h2⟩ := idx_get hc
    simp only [Nat.sub_zero] at h2
    exact ⟨by simp [den, Sg.via, h2], (List.getElem?_eq_some_iff.1 h2).1⟩
  | .sl b o n k, y, h => by
    simp only [inv] at h
    split at h <;> simp at h
    rename_i c hc
    subst h
    obtain ⟨-, h2⟩ := idx_get hc
    simp only [Nat.sub_zero] at h2
    exact ⟨by simp [den, Sg.via, h2], (List.getElem?_eq_some_iff.1 h2).1⟩
  | .fn f cs, y, h => by
    simp only [inv] at h
    split at h <;> simp at h
    rename_i l hl
    subst h
    obtain ⟨h1, h2⟩ := invL_den (σ := σ) hl
    exact ⟨by simp [den, h1], h2⟩
  | .agg l, y, h => by
    simp only [inv] at h
    split at h <;> simp at h
    rename_i l hl
    subst h
    obtain ⟨h1, h2⟩ := invL_den (σ := σ) hl
    exact ⟨by simp [den, h1], h2⟩
  | .tup l, y, h => by
    simp only [inv] at h
    split at h <;> simp at h
    rename_i l hl
    subst h
    obtain ⟨h1, h2⟩ := invL_den (σ := σ) hl
    exact ⟨by simp [den, h1], h2⟩
  | .ifc t x, y, h => by
    simp only [inv] at h
    split at h <;> simp at h
    rename_i l hl
    subst h
    obtain ⟨h1, h2⟩ := inv_den (σ := σ) hl
    exact ⟨by simp [den, h1], h2⟩
theorem invL_den {σ : Sg} {ι : List Nat} : ∀ {l m : List AV}, invL ι l = some m → denL (σ.via ι) m = denL σ l ∧ wfL (σ.via ι) m
  | [], m, h => by simp [invL] at h; subst h; exact ⟨rfl, trivial⟩
  | x :: l, m, h => by
    simp only [invL] at h
    split at h <;> simp at h
    rename_i y m' h1 h2
    subst h
    obtain ⟨a1, a2⟩ := inv_den (σ := σ) h1
    obtain ⟨b1, b2⟩ := invL_den (σ := σ) h2
    exact ⟨by simp [denL, a1, b1], a2, b2⟩
end

/-- two objects that say the same -/
structure Same (σ σ' : Sg) (o o' : AObj) : Prop where
  den : denO σ' o' = denO σ o
  ty : o'.ty = o.ty
  wr : o'.wr = o.wr
  live : o'.live = o.live
  wf : wfO σ' o'

theorem invO_den {σ : Sg} {ι : List Nat} {o o' : AObj} (h : invO ι o = some o') : Same σ (σ.via ι) o o' := by
  cases o with
  | cells t w l =>
    simp only [invO] at h
    split at h <;> simp at h
    rename_i m hm
    subst h
    obtain ⟨h1, h2⟩ := invL_den (σ := σ) hm
    exact ⟨h1, rfl, rfl, rfl, h2⟩
  | _ => simp [invO] at h; subst h; exact ⟨rfl, rfl, rfl, rfl, trivial⟩
theorem invH_get {σ : Sg} {ι : List Nat} {h : List AObj} : ∀ {l : List Nat} {m : List AObj}, invH ι h l = some m → m.length = l.length ∧
    ∀ (c b : Nat), l[c]? = some b → ∃ o o', h[b]? = some o ∧ m[c]? = some o' ∧ Same σ (σ.via ι) o o'
  | [], m, hh => by simp [invH] at hh; subst hh; exact ⟨rfl, fun c b h => by simp at h⟩
  | b :: l, m, hh => by
    simp only [invH] at hh
    split at hh <;> try simp at hh
    rename_i o ho
    split at hh <;> simp at hh
    rename_i o' m' h1 h2
    subst hh
    obtain ⟨k1, k2⟩ := invH_get (σ := σ) h2
    refine ⟨by simp [k1], fun c b' hb => ?_⟩
    cases c with
    | zero => simp at hb; subst hb; exact ⟨o, o', ho, rfl, invO_den h1⟩
    | succ c => simpa using k2 c b' (by simpa using hb)

theorem Same.len {σ σ' : Sg} {o o' : AObj} (h : Same σ σ' o o') : o'.len = o.len := by
  have := congrArg List.length h.den
  simpa using this

theorem Same.blk {P : Program} {σ σ' : Sg} {o o' : AObj} (h : Same σ σ' o o') {w : World} {r e : Nat} : Blk P σ o w r e ↔ Blk P σ' o' w r e := by
  unfold Blk
  rw [h.live, h.ty, h.wr, h.len, h.den]

/-- The relation, seen through ι. -/
theorem RelH.via {P : Program} {σ : Sg} {h : List AObj} {w : World} (hr : RelH P σ h w) {ι : List Nat} (hd : ∀ b ∈ ι, σ.dom b) (hnd : ι.Nodup) {hc : List AObj} (hi : invH ι h ι = some hc) :
    RelH P (σ.via ι) hc w := by
  obtain ⟨hlen, hget⟩ := invH_get (σ := σ) hi
  have key : ∀ (c : Nat) (oc : AObj), hc[c]? = some oc → ∃ b o, ι[c]? = some b ∧ h[b]? = some o ∧ Same σ (σ.via ι) o oc := fun c oc hoc => by
    have hlt : c < ι.length := by rw [← hlen]; exact (List.getElem?_eq_some_iff.1 hoc).1
    obtain ⟨o, o', h1, h2, h3⟩ := hget c ι[c] (List.getElem?_eq_getElem hlt)
    rw [hoc] at h2
    obtain rfl := Option.some.inj h2
    exact ⟨_, o, List.getElem?_eq_getElem hlt, h1, h3⟩
  have hat : ∀ {c b}, ι[c]? = some b → (σ.via ι).at_ c = σ.at_ b ∧ (σ.via ι).ext c = σ.ext b := fun hb => by simp [Sg.via, hb]
  refine ⟨fun c hc' => by rw [hlen]; exact hc', ?_, ?_, ?_⟩
  · intro c oc hdc hoc
    obtain ⟨b, o, h1, h2, h3⟩ := key c oc hoc
    rw [(hat h1).1, (hat h1).2, ← h3.blk]
    exact hr.blk b o (hd b (List.mem_of_getElem? h1)) h2
  · intro c c' oc oc' hd1 hd2 ho1 ho2 hl1 hl2 he
    obtain ⟨b, o, h1, h2, h3⟩ := key c oc ho1
    obtain ⟨b', o', h1', h2', h3'⟩ := key c' oc' ho2
    rw [(hat h1).1, (hat h1').1] at he
    have hb := hr.inj b b' o o' (hd b (List.mem_of_getElem? h1)) (hd b' (List.mem_of_getElem? h1')) h2 h2' (by rw [← h3.live]; exact hl1) (by rw [← h3'.live]; exact hl2) he
    subst hb
    exact (List.getElem?_inj hd1 hnd).1 (h1.trans h1'.symm)
  · intro c oc hdc hoc
    obtain ⟨b, o, h1, h2, h3⟩ := key c oc hoc
    exact h3.wf

theorem img_via {σ : Sg} {h hc : List AObj} {ι : List Nat} (hd : ∀ b ∈ ι, σ.dom b) (hi : invH ι h ι = some hc) {r : Nat} (hr : img (σ.via ι) hc r) :
    ∃ b o, b ∈ ι ∧ h[b]? = some o ∧ o.live = true ∧ σ.at_ b = r := by
  obtain ⟨c, oc, h1, h2, h3, rfl⟩ := hr
  obtain ⟨hlen, hget⟩ := invH_get (σ := σ) hi
  have hlt : c < ι.length := h1
  obtain ⟨o, o', k1, k2, k3⟩ := hget c ι[c] (List.getElem?_eq_getElem hlt)
  rw [h2] at k2
  obtain rfl := Option.some.inj k2
  exact ⟨ι[c], o, List.getElem_mem hlt, k1, by rw [← k3.live]; exact h3, by simp [Sg.via, List.getD, hlt]⟩

theorem wimg_via {σ : Sg} {h hc : List AObj} {ι : List Nat} (hd : ∀ b ∈ ι, σ.dom b) (hi : invH ι h ι = some hc) {r : Nat} (hr : wimg (σ.via ι) hc r) :
    ∃ b o, b ∈ ι ∧ h[b]? = some o ∧ o.live = true ∧ o.wr = true ∧ σ.at_ b = r := by
  obtain ⟨c, oc, h1, h2, h3, h4, rfl⟩ := hr
  obtain ⟨hlen, hget⟩ := invH_get (σ := σ) hi
  have hlt : c < ι.length := h1
  obtain ⟨o, o', k1, k2, k3⟩ := hget c ι[c] (List.getElem?_eq_getElem hlt)
  rw [h2] at k2
  obtain rfl := Option.some.inj k2
  exact ⟨ι[c], o, List.getElem_mem hlt, k1, by rw [← k3.live]; exact h3, by rw [← k3.wr]; exact h4, by simp [Sg.via, List.getD, hlt]⟩

mutual
theorem rn_den {σ σ' : Sg} {m : Nat → Nat} (hm : ∀ c, σ.dom c → σ'.dom (m c) ∧ σ'.at_ (m c) = σ.at_ c ∧ σ'.ext (m c) = σ.ext c) : ∀ (x : AV), wf σ x → den σ' (rn m x) = den σ x ∧ wf σ' (rn m x)
  | .b _, _ => ⟨rfl, trivial⟩
  | .v _, _ => ⟨rfl, trivial⟩
  | .ptr b o, h => ⟨by simp [rn, den, (hm b h).2.1], (hm b h).1⟩
  | .sl b o n c, h => ⟨by simp [rn, den, (hm b h).2.1, (hm b h).2.2], (hm b h).1⟩
  | .fn f cs, h => by obtain ⟨h1, h2⟩ := rnL_den hm cs h; exact ⟨by simp [rn, den, h1], h2⟩
  | .agg l, h => by obtain ⟨h1, h2⟩ := rnL_den hm l h; exact ⟨by simp [rn, den, h1], h2⟩
  | .tup l, h => by obtain ⟨h1, h2⟩ := rnL_den hm l h; exact ⟨by simp [rn, den, h1], h2⟩
  | .ifc t x, h => by obtain ⟨h1, h2⟩ := rn_den hm x h; exact ⟨by simp [rn, den, h1], h2⟩
theorem rnL_den {σ σ' : Sg} {m : Nat → Nat} (hm : ∀ c, σ.dom c → σ'.dom (m c) ∧ σ'.at_ (m c) = σ.at_ c ∧ σ'.ext (m c) = σ.ext c) : ∀ (l : List AV), wfL σ l → denL σ' (rnL m l) = denL σ l ∧ wfL σ' (rnL m l)
  | [], _ => ⟨rfl, trivial⟩
  | x :: l, h => by
    obtain ⟨h1, h2⟩ := rn_den hm x h.1
    obtain ⟨k1, k2⟩ := rnL_den hm l h.2
    exact ⟨by simp [rnL, denL, h1, k1], h2, k2⟩
end
theorem rnO_den {σ σ' : Sg} {m : Nat → Nat} (hm : ∀ c, σ.dom c → σ'.dom (m c) ∧ σ'.at_ (m c) = σ.at_ c ∧ σ'.ext (m c) = σ.ext c) (o : AObj) (h : wfO σ o) : Same σ σ' o (rnO m o) := by
  cases o with
  | cells t w l => obtain ⟨h1, h2⟩ := rnL_den hm l h; exact ⟨h1, rfl, rfl, rfl, h2⟩
  | _ => exact ⟨rfl, rfl, rfl, rfl, trivial⟩
end Go.Abs
