import Derived.Test.YtffoldigaififaaAbsH
set_option linter.unusedVariables false
set_option linter.unusedSimpArgs false
/- Calls: a callee is run over the blocks that its arguments reach, under names of their own. -/
namespace Go.Abs

mutual
/-- renamed forward -/
def rn (m : Nat → Nat) : AV → AV
  | .b x => .b x
  | .v x => .v x
  | .ptr b o => .ptr (m b) o
  | .pe b i s j => .pe (m b) i s j
  | .sw b s => .sw (m b) s
  | .sn b s => .sn (m b) s
  | .sl b s z o n c => .sl (m b) s z o n c
  | .fn f cs => .fn f (rnL m cs)
  | .mv f cs => .mv f (rnL m cs)
  | .agg l => .agg (rnL m l)
  | .tup l => .tup (rnL m l)
  | .ifc t x => .ifc t (rn m x)
  | .mp b => .mp (m b)
def rnL (m : Nat → Nat) : List AV → List AV
  | [] => []
  | x :: l => rn m x :: rnL m l
end
def rnO (m : Nat → Nat) : AObj → AObj
  | .cells t w l => .cells t w (rnL m l)
  | o => o

def idx (b : Nat) : List Nat → Nat → Option Nat
  | [], _ => none
  | x :: l, k => if x = b then some k else idx b l (k + 1)
theorem idx_get {b : Nat} : ∀ {l : List Nat} {k c : Nat}, idx b l k = some c → k ≤ c ∧ l[c - k]? = some b
  | [], k, c, h => by simp [idx] at h
  | x :: l, k, c, h => by
    simp only [idx] at h
    split at h
    · simp at h; subst h; rename_i e; subst e; simp
    · obtain ⟨h1, h2⟩ := idx_get h
      refine ⟨by omega, ?_⟩
      have : c - k = (c - (k + 1)) + 1 := by omega
      rw [this, List.getElem?_cons_succ]; exact h2

mutual
/-- renamed back: block ι[c] becomes c -/
def inv (ι : List Nat) : AV → Option AV
  | .b x => some (.b x)
  | .v x => some (.v x)
  | .ptr b o => match idx b ι 0 with | some c => some (.ptr c o) | none => none
  | .mp b => match idx b ι 0 with | some c => some (.mp c) | none => none
  | .pe b i s j => match idx b ι 0 with | some c => some (.pe c i s j) | none => none
  | .sw b s => match idx b ι 0 with | some c => some (.sw c s) | none => none
  | .sn b s => match idx b ι 0 with | some c => some (.sn c s) | none => none
  | .sl b s z o n k => match idx b ι 0 with | some c => some (.sl c s z o n k) | none => none
  | .fn f cs => match invL ι cs with | some l => some (.fn f l) | none => none
  | .mv f cs => match invL ι cs with | some l => some (.mv f l) | none => none
  | .agg l => match invL ι l with | some l => some (.agg l) | none => none
  | .tup l => match invL ι l with | some l => some (.tup l) | none => none
  | .ifc t x => match inv ι x with | some y => some (.ifc t y) | none => none
def invL (ι : List Nat) : List AV → Option (List AV)
  | [] => some []
  | x :: l => match inv ι x, invL ι l with | some y, some m => some (y :: m) | _, _ => none
end
def invO (ι : List Nat) : AObj → Option AObj
  | .cells t w l => match invL ι l with | some l => some (.cells t w l) | none => none
  | o => some o
def invH (ι : List Nat) (h : List AObj) : List Nat → Option (List AObj)
  | [] => some []
  | b :: l => match h[b]? with
    | some o => match invO ι o, invH ι h l with
      | some o', some m => some (o' :: m)
      | _, _ => none
    | none => none

/-- σ seen through ι -/
def Sg.via (σ : Sg) (ι : List Nat) : Sg where
  loc c := σ.loc (ι.getD c 0)
  dom c := c < ι.length

mutual
theorem inv_den {σ : Sg} {ι : List Nat} : ∀ {x y : AV}, inv ι x = some y → den (σ.via ι) y = den σ x ∧ (wf σ x → wf (σ.via ι) y)
  | .b x, y, h => by simp [inv] at h; subst h; exact ⟨rfl, fun _ => trivial⟩
  | .v x, y, h => by simp [inv] at h; subst h; exact ⟨rfl, fun _ => trivial⟩
  | .ptr b o, y, h => by
    simp only [inv] at h
    split at h <;> simp at h
    rename_i c hc
    subst h
    obtain ⟨-, h2⟩ := idx_get hc
    simp only [Nat.sub_zero] at h2
    exact ⟨by simp [den, Sg.via, Sg.at_, h2], fun _ => (List.getElem?_eq_some_iff.1 h2).1⟩
  | .mp b, y, h => by
    simp only [inv] at h
    split at h <;> simp at h
    rename_i c hc
    subst h
    obtain ⟨-, h2⟩ := idx_get hc
    simp only [Nat.sub_zero] at h2
    exact ⟨by simp [den, Sg.via, Sg.at_, h2], fun _ => (List.getElem?_eq_some_iff.1 h2).1⟩
  | .pe b i s j, y, h => by
    simp only [inv] at h
    split at h <;> simp at h
    rename_i c hc
    subst h
    obtain ⟨-, h2⟩ := idx_get hc
    simp only [Nat.sub_zero] at h2
    exact ⟨by simp [den, Sg.via, Sg.at_, h2], fun _ => (List.getElem?_eq_some_iff.1 h2).1⟩
  | .sw b s, y, h => by
    simp only [inv] at h
    split at h <;> simp at h
    rename_i c hc
    subst h
    obtain ⟨-, h2⟩ := idx_get hc
    simp only [Nat.sub_zero] at h2
    exact ⟨by simp [den, Sg.via, h2], fun hw => ⟨(List.getElem?_eq_some_iff.1 h2).1, hw.2⟩⟩
  | .sn b s, y, h => by
    simp only [inv] at h
    split at h <;> simp at h
    rename_i c hc
    subst h
    obtain ⟨-, h2⟩ := idx_get hc
    simp only [Nat.sub_zero] at h2
    exact ⟨by simp [den, Sg.via, h2], fun hw => ⟨(List.getElem?_eq_some_iff.1 h2).1, hw.2.1, by simp [Sg.via, h2, hw.2.2]⟩⟩
  | .sl b s z o n k, y, h => by
    simp only [inv] at h
    split at h <;> simp at h
    rename_i c hc
    subst h
    obtain ⟨-, h2⟩ := idx_get hc
    simp only [Nat.sub_zero] at h2
    have e : (σ.via ι).loc c = σ.loc b := by simp [Sg.via, h2]
    exact ⟨by simp only [den, e], fun hw => ⟨(List.getElem?_eq_some_iff.1 h2).1, by rw [e]; exact hw.2⟩⟩
  | .fn f cs, y, h => by
    simp only [inv] at h
    split at h <;> simp at h
    rename_i l hl
    subst h
    obtain ⟨h1, h2⟩ := invL_den (σ := σ) hl
    exact ⟨by simp [den, h1], h2⟩
  | .mv f cs, y, h => by
    simp only [inv] at h
    split at h <;> simp at h
    rename_i l hl
    subst h
    obtain ⟨h1, h2⟩ := invL_den (σ := σ) hl
    exact ⟨by simp [den, h1], h2⟩
  | .agg l, y, h => by
    simp only [inv] at h
    split at h <;> simp at h
    rename_i l hl
    subst h
    obtain ⟨h1, h2⟩ := invL_den (σ := σ) hl
    exact ⟨by simp [den, h1], h2⟩
  | .tup l, y, h => by
    simp only [inv] at h
    split at h <;> simp at h
    rename_i l hl
    subst h
    obtain ⟨h1, h2⟩ := invL_den (σ := σ) hl
    exact ⟨by simp [den, h1], h2⟩
  | .ifc t x, y, h => by
    simp only [inv] at h
    split at h <;> simp at h
    rename_i l hl
    subst h
    obtain ⟨h1, h2⟩ := inv_den (σ := σ) hl
    exact ⟨by simp [den, h1], h2⟩
theorem invL_den {σ : Sg} {ι : List Nat} : ∀ {l m : List AV}, invL ι l = some m → denL (σ.via ι) m = denL σ l ∧ (wfL σ l → wfL (σ.via ι) m)
  | [], m, h => by simp [invL] at h; subst h; exact ⟨rfl, fun _ => trivial⟩
  | x :: l, m, h => by
    simp only [invL] at h
    split at h <;> simp at h
    rename_i y m' h1 h2
    subst h
    obtain ⟨a1, a2⟩ := inv_den (σ := σ) h1
    obtain ⟨b1, b2⟩ := invL_den (σ := σ) h2
    exact ⟨by simp [denL, a1, b1], fun hw => ⟨a2 hw.1, b2 hw.2⟩⟩
end

/-- two objects that say the same -/
structure Same (σ σ' : Sg) (o o' : AObj) : Prop where
  den : denO σ' o' = denO σ o
  wr : o'.wr = o.wr
  live : o'.live = o.live
  row : o'.row = o.row
  tag : o'.tag = o.tag
  rep : ∀ L ob, o.row = false → (Rep σ' o' L ob ↔ Rep σ o L ob)
  wf : wfO σ o → wfO σ' o'

theorem invO_den {σ : Sg} {ι : List Nat} {o o' : AObj} (h : invO ι o = some o') : Same σ (σ.via ι) o o' := by
  cases o with
  | cells t w l =>
    simp only [invO] at h
    split at h <;> simp at h
    rename_i m hm
    subst h
    obtain ⟨h1, h2⟩ := invL_den (σ := σ) hm
    exact ⟨h1, rfl, rfl, rfl, rfl, fun L ob h => by simp [AObj.row] at h, h2⟩
  | siter s p => simp [invO] at h; subst h; exact ⟨rfl, rfl, rfl, rfl, rfl, fun L ob _ => Iff.rfl, fun _ => trivial⟩
  | imap w l => simp [invO] at h; subst h; exact ⟨rfl, rfl, rfl, rfl, rfl, fun L ob _ => Iff.rfl, fun _ => trivial⟩
  | _ => simp [invO] at h; subst h; exact ⟨rfl, rfl, rfl, rfl, rfl, fun L ob h => by simp [AObj.row] at h, fun _ => trivial⟩
theorem invH_get {σ : Sg} {ι : List Nat} {h : List AObj} : ∀ {l : List Nat} {m : List AObj}, invH ι h l = some m → m.length = l.length ∧
    ∀ (c b : Nat), l[c]? = some b → ∃ o o', h[b]? = some o ∧ m[c]? = some o' ∧ Same σ (σ.via ι) o o'
  | [], m, hh => by simp [invH] at hh; subst hh; exact ⟨rfl, fun c b h => by simp at h⟩
  | b :: l, m, hh => by
    simp only [invH] at hh
    split at hh <;> try simp at hh
    rename_i o ho
    split at hh <;> simp at hh
    rename_i o' m' h1 h2
    subst hh
    obtain ⟨k1, k2⟩ := invH_get (σ := σ) h2
    refine ⟨by simp [k1], fun c b' hb => ?_⟩
    cases c with
    | zero => simp at hb; subst hb; exact ⟨o, o', ho, rfl, invO_den h1⟩
    | succ c => simpa using k2 c b' (by simpa using hb)

theorem Same.len {σ σ' : Sg} {o o' : AObj} (h : Same σ σ' o o') : o'.len = o.len := by
  have := congrArg List.length h.den
  simpa using this

theorem Same.repI {σ σ' : Sg} {o o' : AObj} (h : Same σ σ' o o') {L : Loc} {ob : Obj} : Rep σ' o' L ob ↔ Rep σ o L ob := by
  cases hr : o.row with
  | false => exact h.rep L ob hr
  | true => rw [Rep.row hr, Rep.row (by rw [h.row]; exact hr), h.den, h.wr, h.tag]
theorem Same.blk {σ σ' : Sg} {o o' : AObj} (h : Same σ σ' o o') {w : World} {L : Loc} : Blk σ o w L ↔ Blk σ' o' w L := by
  constructor
  · intro b; exact ⟨by rw [h.len]; exact b.len, b.le, b.nil, fun hc => by obtain ⟨ob, h1, h2⟩ := b.rep hc; exact ⟨ob, h1, h.repI.2 h2⟩, fun k => b.it (by rw [← h.row]; exact k)⟩
  · intro b; exact ⟨by rw [← h.len]; exact b.len, b.le, b.nil, fun hc => by obtain ⟨ob, h1, h2⟩ := b.rep hc; exact ⟨ob, h1, h.repI.1 h2⟩, fun k => b.it (by rw [h.row]; exact k)⟩

theorem img_via {σ : Sg} {h hc : List AObj} {ι : List Nat} (hd : ∀ b ∈ ι, σ.dom b) (hi : invH ι h ι = some hc) {r : Nat} (hr : img (σ.via ι) hc r) :
    ∃ b o, b ∈ ι ∧ h[b]? = some o ∧ o.live = true ∧ 0 < (σ.loc b).cap ∧ σ.at_ b = r := by
  obtain ⟨c, oc, h1, h2, h3, hcap, rfl⟩ := hr
  obtain ⟨hlen, hget⟩ := invH_get (σ := σ) hi
  have hlt : c < ι.length := h1
  obtain ⟨o, o', k1, k2, k3⟩ := hget c ι[c] (List.getElem?_eq_getElem hlt)
  rw [h2] at k2
  obtain rfl := Option.some.inj k2
  exact ⟨ι[c], o, List.getElem_mem hlt, k1, by rw [← k3.live]; exact h3, by simpa [Sg.via, List.getD, hlt] using hcap, by simp [Sg.via, Sg.at_, List.getD, hlt]⟩

theorem wimg_via {σ : Sg} {h hc : List AObj} {ι : List Nat} (hd : ∀ b ∈ ι, σ.dom b) (hi : invH ι h ι = some hc) {r : Nat} (hr : wimg (σ.via ι) hc r) :
    ∃ b o, b ∈ ι ∧ h[b]? = some o ∧ o.live = true ∧ 0 < (σ.loc b).cap ∧ o.wr = true ∧ σ.at_ b = r := by
  obtain ⟨c, oc, h1, h2, h3, hcap, h4, rfl⟩ := hr
  obtain ⟨hlen, hget⟩ := invH_get (σ := σ) hi
  have hlt : c < ι.length := h1
  obtain ⟨o, o', k1, k2, k3⟩ := hget c ι[c] (List.getElem?_eq_getElem hlt)
  rw [h2] at k2
  obtain rfl := Option.some.inj k2
  exact ⟨ι[c], o, List.getElem_mem hlt, k1, by rw [← k3.live]; exact h3, by simpa [Sg.via, List.getD, hlt] using hcap, by rw [← k3.wr]; exact h4, by simp [Sg.via, Sg.at_, List.getD, hlt]⟩

/-- The relation, seen through ι. -/
theorem RelH.via {P : Program} {σ : Sg} {h : List AObj} {w : World} (hr : RelH P σ h w) {ι : List Nat} (hd : ∀ b ∈ ι, σ.dom b) (hnd : ι.Nodup) {hc : List AObj} (hi : invH ι h ι = some hc) :
    RelH P (σ.via ι) hc w := by
  obtain ⟨hlen, hget⟩ := invH_get (σ := σ) hi
  have key : ∀ (c : Nat) (oc : AObj), hc[c]? = some oc → ∃ b o, ι[c]? = some b ∧ h[b]? = some o ∧ Same σ (σ.via ι) o oc := fun c oc hoc => by
    have hlt : c < ι.length := by rw [← hlen]; exact (List.getElem?_eq_some_iff.1 hoc).1
    obtain ⟨o, o', h1, h2, h3⟩ := hget c ι[c] (List.getElem?_eq_getElem hlt)
    rw [hoc] at h2
    obtain rfl := Option.some.inj h2
    exact ⟨_, o, List.getElem?_eq_getElem hlt, h1, h3⟩
  have hat : ∀ {c b}, ι[c]? = some b → (σ.via ι).loc c = σ.loc b := fun hb => by simp [Sg.via, hb]
  refine ⟨⟨fun c hc' => by rw [hlen]; exact hc', ?_, ?_, ?_⟩, fun x hx => ⟨(hr.amb x hx).1, fun hm => (hr.amb x hx).2 (by
    obtain ⟨b, o, k1, k2, k3, k4, k5, k6⟩ := wimg_via hd hi hm
    exact ⟨b, o, hd b k1, k2, k3, k4, k5, k6⟩)⟩⟩
  · intro c oc hdc hoc hl
    obtain ⟨b, o, h1, h2, h3⟩ := key c oc hoc
    rw [hat h1, ← h3.blk]
    exact hr.blk b o (hd b (List.mem_of_getElem? h1)) h2 (by rw [← h3.live]; exact hl)
  · intro c c' oc oc' hd1 hd2 ho1 ho2 hl1 hl2 k1 k2 hwr he
    obtain ⟨b, o, h1, h2, h3⟩ := key c oc ho1
    obtain ⟨b', o', h1', h2', h3'⟩ := key c' oc' ho2
    simp only [Sg.at_, hat h1, hat h1'] at he k1 k2
    have hb := hr.inj b b' o o' (hd b (List.mem_of_getElem? h1)) (hd b' (List.mem_of_getElem? h1')) h2 h2' (by rw [← h3.live]; exact hl1) (by rw [← h3'.live]; exact hl2) k1 k2 (by rw [← h3.wr, ← h3'.wr]; exact hwr) he
    subst hb
    exact (List.getElem?_inj hd1 hnd).1 (h1.trans h1'.symm)
  · intro c oc hdc hoc
    obtain ⟨b, o, h1, h2, h3⟩ := key c oc hoc
    exact h3.wf (hr.wfo b o (hd b (List.mem_of_getElem? h1)) h2)

mutual
theorem rn_den {σ σ' : Sg} {m : Nat → Nat} (hm : ∀ c, σ.dom c → σ'.dom (m c) ∧ σ'.loc (m c) = σ.loc c) : ∀ (x : AV), wf σ x → den σ' (rn m x) = den σ x ∧ wf σ' (rn m x)
  | .b _, _ => ⟨rfl, trivial⟩
  | .v _, _ => ⟨rfl, trivial⟩
  | .ptr b o, h => ⟨by simp [rn, den, Sg.at_, (hm b h).2], (hm b h).1⟩
  | .pe b i s j, h => ⟨by simp [rn, den, Sg.at_, (hm b h).2], (hm b h).1⟩
  | .mp b, h => ⟨by simp [rn, den, Sg.at_, (hm b h).2], (hm b h).1⟩
  | .sw b s, h => ⟨by simp [rn, den, (hm b h.1).2], (hm b h.1).1, h.2⟩
  | .sn b s, h => ⟨by simp [rn, den, (hm b h.1).2], (hm b h.1).1, h.2.1, by rw [(hm b h.1).2]; exact h.2.2⟩
  | .sl b s z o n c, h => ⟨by simp only [rn, den, (hm b h.1).2], (hm b h.1).1, by rw [(hm b h.1).2]; exact h.2⟩
  | .fn f cs, h => by obtain ⟨h1, h2⟩ := rnL_den hm cs h; exact ⟨by simp [rn, den, h1], h2⟩
  | .mv f cs, h => by obtain ⟨h1, h2⟩ := rnL_den hm cs h; exact ⟨by simp [rn, den, h1], h2⟩
  | .agg l, h => by obtain ⟨h1, h2⟩ := rnL_den hm l h; exact ⟨by simp [rn, den, h1], h2⟩
  | .tup l, h => by obtain ⟨h1, h2⟩ := rnL_den hm l h; exact ⟨by simp [rn, den, h1], h2⟩
  | .ifc t x, h => by obtain ⟨h1, h2⟩ := rn_den hm x h; exact ⟨by simp [rn, den, h1], h2⟩
theorem rnL_den {σ σ' : Sg} {m : Nat → Nat} (hm : ∀ c, σ.dom c → σ'.dom (m c) ∧ σ'.loc (m c) = σ.loc c) : ∀ (l : List AV), wfL σ l → denL σ' (rnL m l) = denL σ l ∧ wfL σ' (rnL m l)
  | [], _ => ⟨rfl, trivial⟩
  | x :: l, h => by
    obtain ⟨h1, h2⟩ := rn_den hm x h.1
    obtain ⟨k1, k2⟩ := rnL_den hm l h.2
    exact ⟨by simp [rnL, denL, h1, k1], h2, k2⟩
end
theorem rnO_den {σ σ' : Sg} {m : Nat → Nat} (hm : ∀ c, σ.dom c → σ'.dom (m c) ∧ σ'.loc (m c) = σ.loc c) (o : AObj) (h : wfO σ o) : Same σ σ' o (rnO m o) := by
  cases o with
  | cells t w l => obtain ⟨h1, h2⟩ := rnL_den hm l h; exact ⟨h1, rfl, rfl, rfl, rfl, fun L ob h => by simp [AObj.row] at h, fun _ => h2⟩
  | siter s p => exact ⟨rfl, rfl, rfl, rfl, rfl, fun L ob _ => Iff.rfl, fun _ => trivial⟩
  | imap w l => exact ⟨rfl, rfl, rfl, rfl, rfl, fun L ob _ => Iff.rfl, fun _ => trivial⟩
  | _ => exact ⟨rfl, rfl, rfl, rfl, rfl, fun L ob h => by simp [AObj.row] at h, fun _ => trivial⟩
end Go.Abs
