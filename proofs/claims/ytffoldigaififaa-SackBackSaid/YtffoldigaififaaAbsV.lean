import Derived.Test.YtffoldigaififaaAbsG
set_option linter.unusedVariables false
set_option linter.unusedSimpArgs false
/- Slices: what the real operations do. -/
namespace Go.Abs
section
variable {P : Program} {w : World}
/-- cells laid, if there is a place -/
def putOpt (B : Option Addr) (k : Nat) (l : List Value) : Sem Unit := match B with
  | some a => storeCells (a.add k) l
  | none => pure ()
theorem run_append_fit {t u ty e : TypeId} {i : TypeInfo} (ht : P.underlying t = some (.slice e)) (hu : (∃ e', P.underlying u = some (.slice e')) ∨ P.underlying u = some .string) (hi : P.info? e = some i)
    {base : Option Addr} {n r m : Nat} {y : Value} {news : List Value} (hlen : (Builtin.lenOf y).run P w = .ok m w) (hfc : (Builtin.firstCells i.size m y).run P w = .ok news.toArray w) (hroom : n + m ≤ r) :
    (Builtin.append_ #[t, u] ty #[.slice base n r, y]).run P w = ((putOpt base (n * i.size) news).run P w).andThen fun _ w' => .ok (.slice base (n + m) r) w' := by
  rcases hu with ⟨e', hu⟩ | hu
  · cases base <;> simp [putOpt, Builtin.append_, run_underlying ht, run_underlying hu, sizeOf, typeInfo, hi, hlen, hroom, hfc]
  · cases base <;> simp [putOpt, Builtin.append_, run_underlying ht, run_underlying hu, sizeOf, typeInfo, hi, hlen, hroom, hfc]
theorem run_append_new {t u ty e : TypeId} {i : TypeInfo} {z : Value} (ht : P.underlying t = some (.slice e)) (hu : (∃ e', P.underlying u = some (.slice e')) ∨ P.underlying u = some .string) (hi : P.info? e = some i) (hz : i.zero = some z)
    {base : Option Addr} {n r m : Nat} {y : Value} {news olds : List Value} (hlen : (Builtin.lenOf y).run P w = .ok m w) (hfc : (Builtin.firstCells i.size m y).run P w.drew = .ok news.toArray w.drew)
    (hfo : (Builtin.firstCells i.size n (.slice base n r)).run P w.drew = .ok olds.toArray w.drew) (hroom : r < n + m) (hb : 0 < i.bytes) (hfit : (n + m) * i.bytes ≤ 140737488355328) :
    (Builtin.append_ #[t, u] ty #[.slice base n r, y]).run P w =
      .ok (.slice (some ⟨w.heap.size, 0, none⟩) (n + m) (grownCap w (n + m) r e))
        (w.drew.alloc (.cells ((olds ++ news).toArray ++ Builtin.zeroCells z.cells (grownCap w (n + m) r e - (n + m))) e)) := by
  have hn : ¬ (n + m ≤ r) := by omega
  have h1 : n + m ≤ (n + m) * i.bytes := Nat.le_mul_of_pos_right _ hb
  have h63' : ¬ (9223372036854775807 < ((n : Int) + (m : Int))) := by omega
  have h48 := growslice_fits hroom hfit
  have h48' : ¬ (281474976710656 < Builtin.nextslicecap (n + m) r * i.bytes) := by omega
  rcases hu with ⟨e', hu⟩ | hu
  · simp [Builtin.append_, run_underlying ht, run_underlying hu, sizeOf, typeInfo, zeroValue, hi, hz, hlen, hn, h63', h48', Question.forced, hfc, hfo, newRow, grownCap]
    congr 2; apply Array.ext'; simp
  · simp [Builtin.append_, run_underlying ht, run_underlying hu, sizeOf, typeInfo, zeroValue, hi, hz, hlen, hn, h63', h48', Question.forced, hfc, hfo, newRow, grownCap]
    congr 2; apply Array.ext'; simp
end

section
variable {P : Program} {σ : Sg} {g h : List AObj} {w : World}
@[simp] theorem setW_den (o : AObj) (w : Bool) : denO σ (o.setW w) = denO σ o := by cases o <;> rfl
@[simp] theorem setW_len (o : AObj) (w : Bool) : (o.setW w).len = o.len := by cases o <;> rfl
@[simp] theorem setW_live (o : AObj) (w : Bool) : (o.setW w).live = o.live := by cases o <;> rfl
@[simp] theorem setW_row (o : AObj) (w : Bool) : (o.setW w).row = o.row := by cases o <;> rfl
theorem setW_wf {o : AObj} {w : Bool} (h : wfO σ o) : wfO σ (o.setW w) := by cases o <;> exact h
theorem setW_wr {o : AObj} {w : Bool} (h1 : o.live = true) (h2 : o.row = true) : (o.setW w).wr = w := by
  cases o with
  | dead => simp [AObj.live] at h1
  | siter s p => simp [AObj.row] at h2
  | imap w l => simp [AObj.row] at h2
  | _ => rfl
theorem ones_den {o : AObj} (h : o.ones = true) : ∀ v ∈ denO σ o, v.oneCell' = true := by
  cases o with
  | cells t w l =>
    intro v hv
    simp only [denO, denL_map] at hv
    obtain ⟨x, hx, rfl⟩ := List.mem_map.1 hv
    exact one_den (by simp only [AObj.ones, List.all_eq_true] at h; exact h x hx)
  | rows w s l =>
    intro v hv
    simp only [denO, List.mem_flatMap] at hv
    obtain ⟨x, -, hx⟩ := hv
    have key : ∀ (s : List CK) (x : El s), ∀ v ∈ El.vals s x, v.oneCell' = true := by
      intro s
      induction s with
      | nil => intro x v hv; simp [El.vals] at hv
      | cons c r ih =>
        intro x v hv
        cases r with
        | nil => simp only [El.vals, List.mem_singleton] at hv; subst hv; cases c <;> rfl
        | cons d r =>
          simp only [El.vals, List.mem_cons] at hv
          rcases hv with rfl | hv
          · cases c <;> rfl
          · exact ih x.2 v (by simpa using hv)
    exact key s x v hx
  | dead => intro v hv; simp [denO] at hv
  | siter s p => intro v hv; simp [denO] at hv
  | imap w l => intro v hv; simp [denO] at hv
  | ints t w k l => intro v hv; simp only [denO, List.mem_map] at hv; obtain ⟨x, -, rfl⟩ := hv; rfl
  | bools t w l => intro v hv; simp only [denO, List.mem_map] at hv; obtain ⟨x, -, rfl⟩ := hv; rfl
  | strs t w l => intro v hv; simp only [denO, List.mem_map] at hv; obtain ⟨x, -, rfl⟩ := hv; rfl

/-- what a slice holds -/
structure Cont (P : Program) (σ : Sg) (w : World) (s : Nat) (v : Value) (o' : AObj) (m : Nat) (wr : Bool) : Prop where
  live : o'.live = true
  row : o'.row = true
  wr : o'.wr = wr
  len : o'.len = m * s
  wfo : wfO σ o'
  lenOf : ∀ w2, (Builtin.lenOf v).run P w2 = .ok m w2
  cells : ∀ w2 : World, w2.heap = w.heap → ∀ k, k ≤ m → (Builtin.firstCells s k v).run P w2 = .ok ((denO σ o').take (k * s)).toArray w2

/-- a slice's cells in memory -/
structure SlAt (σ : Sg) (w : World) (s : Nat) (B : Option Addr) (n r : Nat) (L : Loc) (off z : Nat) (b : Nat) (cs : List Value) : Prop where
  loc : σ.loc b = L
  base : B = L.base (cond (r == 0) z off * s)
  le : n ≤ r
  fit : (off + r) * s ≤ L.cap
  pos : 0 < s
  len : cs.length = n * s
  nil : L.nil = true → L.cap = 0
  cell : ∀ i v, cs[i]? = some v → w.cell? ⟨L.at_, L.off + (off * s + i), none⟩ = some v

theorem SlAt.first {s : Nat} {B : Option Addr} {n r : Nat} {L : Loc} {off z b : Nat} {cs : List Value} (h : SlAt σ w s B n r L off z b cs) :
    ∀ w2 : World, w2.heap = w.heap → ∀ k, k ≤ n → (Builtin.firstCells s k (.slice B n r)).run P w2 = .ok (cs.take (k * s)).toArray w2 := by
  intro w2 hw k hk
  rw [h.base]
  by_cases h0 : k = 0
  · subst h0
    cases hb : L.base (cond (r == 0) z off * s) with
    | none => simp [Builtin.firstCells]
    | some a =>
      have := run_firstCells_some (P := P) w2 s 0 a n r [] (by simp) (by simp)
      simpa using this
  · have hr : (r == 0) = false := by have := h.le; simp; omega
    have hnil : L.nil = false := by
      cases hn : L.nil with
      | false => rfl
      | true =>
        have h1 := h.nil hn
        have h2 := h.fit
        have h3 := h.le
        have h4 : 1 * s ≤ (off + r) * s := Nat.mul_le_mul_right _ (by omega)
        have := h.pos
        omega
    simp only [Loc.base, hnil, hr, cond_false]
    have hle : k * s ≤ n * s := Nat.mul_le_mul_right _ hk
    have := run_firstCells_some (P := P) w2 s k ⟨L.at_, L.off + off * s, none⟩ n r (cs.take (k * s)) (by have := h.len; simp; omega) (fun j v hj => by
      have hj2 : j < k * s := by have := (List.getElem?_eq_some_iff.1 hj).1; simp at this; omega
      rw [List.getElem?_take, if_pos hj2] at hj
      have h5 := h.cell j v hj
      rw [addr_add, Nat.add_assoc]
      simpa [World.cell?, hw] using h5)
    exact this

theorem sw_at (hr : RelH P σ g w) {b s m : Nat} {o : AObj} (hwf : wf σ (.sw b s)) (ho : g[b]? = some o) (hc : o.cnt s = some m) :
    (σ.loc b).len / s = m ∧ SlAt σ w s ((σ.loc b).base 0) m ((σ.loc b).cap / s) (σ.loc b) 0 0 b (denO σ o) := by
  obtain ⟨hd, hs⟩ := hwf
  obtain ⟨h1, h2, h3⟩ := cnt_spec hc
  have hb := hr.blk b o hd ho h1
  have hl := hb.len
  have e : (σ.loc b).len / s = m := by rw [← hl, h3]; exact Nat.mul_div_cancel _ hs
  refine ⟨e, rfl, by cases (σ.loc b).cap / s == 0 <;> simp, ?_, ?_, hs, by simp [h3], hb.nil, fun i v hv => ?_⟩
  · rw [← e]; exact Nat.div_le_div_right hb.le
  · simp; exact Nat.div_mul_le_self _ _
  · have := blk_cell hr hd ho h1 h2 hv
    simpa using this
theorem sl_at (hr : RelH P σ g w) {b s z off n : Nat} {c : Option Nat} {o q : AObj} {wr : Bool} (hwf : wf σ (.sl b s z off n c)) (ho : g[b]? = some o) (hwin : Win σ o q s off n wr) :
    SlAt σ w s ((σ.loc b).base (cond (((σ.loc b).room s off c) == 0) z off * s)) n ((σ.loc b).room s off c) (σ.loc b) off z b (denO σ q) := by
  obtain ⟨hd, hs, hn, hf⟩ := hwf
  have hb := hr.blk b o hd ho hwin.live
  refine ⟨rfl, rfl, hn, hf, hs, by simp [hwin.len], hb.nil, fun i v hv => ?_⟩
  have hi : i < n * s := by have := (List.getElem?_eq_some_iff.1 hv).1; simp [hwin.len] at this; exact this
  rw [hwin.den, List.getElem?_take, if_pos hi, List.getElem?_drop] at hv
  exact blk_cell hr hd ho hwin.live hwin.row hv

theorem contA_sound (hr : RelH P σ g w) (hg : ∀ (b : Nat) (o : AObj), h[b]? = some o → g[b]? = some o) {s m : Nat} {wr : Bool} {x : AV} {o' : AObj} {cs : List Prop}
    (hx : contA h s wr x = some (o', m, cs)) (hc : All cs) (hwf : wf σ x) : Cont P σ w s (den σ x) o' m wr := by
  unfold contA at hx
  split at hx
  · rename_i b s'
    split at hx <;> try simp at hx
    rename_i hs; subst hs
    split at hx <;> try simp at hx
    rename_i o ho
    split at hx <;> simp at hx
    rename_i m' hm
    obtain ⟨rfl, rfl, rfl⟩ := hx
    obtain ⟨h1, h2, h3⟩ := cnt_spec hm
    obtain ⟨e, hat⟩ := sw_at hr hwf (hg _ _ ho) hm
    refine ⟨by simp [h1], by simp [h2], setW_wr h1 h2, by simp [h3], setW_wf (hr.wfo b o hwf.1 (hg _ _ ho)), fun w2 => by simp [Builtin.lenOf, den, e], fun w2 hw k hk => ?_⟩
    rw [setW_den]
    simp only [den, e]
    exact hat.first w2 hw k hk
  · rename_i b s' z off n c
    split at hx <;> try simp at hx
    rename_i hs; subst hs
    split at hx <;> try simp at hx
    rename_i o ho
    split at hx <;> simp at hx
    rename_i q ds hq
    obtain ⟨rfl, rfl, rfl⟩ := hx
    have hwin := win_den (σ := σ) hq hc
    have hat := sl_at hr hwf (hg _ _ ho) hwin
    exact ⟨hwin.live', hwin.row', hwin.wr, hwin.len, hwin.wf (hr.wfo b o hwf.1 (hg _ _ ho)), fun w2 => by simp [Builtin.lenOf, den, slV], fun w2 hw k hk => hat.first w2 hw k hk⟩
  · rename_i str
    split at hx <;> simp at hx
    obtain ⟨rfl, rfl, rfl⟩ := hx
    rename_i hs; subst hs
    refine ⟨rfl, rfl, rfl, by simp only [AObj.len, bytesI, slenN, List.length_map, Nat.mul_one]; rfl, trivial, fun w2 => by simp [Builtin.lenOf, den, slenN], fun w2 hw k hk => ?_⟩
    simp only [den, Builtin.firstCells, Sem.run_pure, Result.ok.injEq, and_true]
    apply Array.ext'
    rw [ByteArray.data_extract]
    simp [denO, bytesI, List.map_take, Function.comp_def]
  · simp at hx
end
end Go.Abs
