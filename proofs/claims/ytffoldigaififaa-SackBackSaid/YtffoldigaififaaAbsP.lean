import Derived.Test.YtffoldigaififaaAbsK
set_option linter.unusedVariables false
set_option linter.unusedSimpArgs false
/- Regions that draw their order. -/
namespace Go.Abs

/-- slots that stay, blocks under new names -/
def keepT (keep : List Nat) : Nat → Tm → Tm
  | _, [] => []
  | i, x :: l => (if keep.any (fun k => k == i) then x else none) :: keepT keep (i + 1) l
theorem keepT_get {keep : List Nat} : ∀ {tm : Tm} {i t : Nat} {x : AV}, (keepT keep i tm)[t]? = some (some x) → tm[t]? = some (some x)
  | [], i, t, x, h => by simp [keepT] at h
  | y :: l, i, t, x, h => by
    cases t with
    | zero =>
      simp only [keepT, List.getElem?_cons_zero, Option.some.injEq] at h
      split at h
      · subst h; rfl
      · simp at h
    | succ t => simp only [keepT, List.getElem?_cons_succ] at h ⊢; exact keepT_get h
theorem keepT_length {keep : List Nat} : ∀ {tm : Tm} {i : Nat}, (keepT keep i tm).length = tm.length
  | [], i => rfl
  | y :: l, i => by simp [keepT, keepT_length]

def tmpsOf : List Operand → List Nat
  | [] => []
  | .tmp t :: l => t :: tmpsOf l
  | _ :: l => tmpsOf l
def looksL (ops : List Oper) (o : Oper) : List Nat :=
  tmpsOf o.op.operands.toList ++ (match o.guard with
    | some (g, _) => match ops[g]? with
      | some x => match x.dst with
        | some d => [d]
        | none => []
      | none => []
    | none => [])
/-- is a slot asked as a test? -/
def usedB (ops : List Oper) : Option Tmp → Bool
  | none => false
  | some d => ops.any fun o => (match o.op with | .pick (.tmp c) _ _ => c == d | _ => false) || (match o.guard with
    | some (g, _) => match ops[g]? with
      | some x => match x.dst with
        | some e => e == d
        | none => false
      | none => false
    | none => false)
def decV (use : Bool) (v : AV) (orc : List Orc) : Option (AV × List Orc × List Prop) :=
  match use, v with
  | true, .v (.bool t) => match orc with
    | .br b :: r => some (.b b, r, [isB t b])
    | _ => none
  | _, v => some (v, orc, [])
theorem decV_den {use : Bool} {v v' : AV} {orc orc' : List Orc} {cs : List Prop} (h : decV use v orc = some (v', orc', cs)) (hc : All cs) (σ : Sg) : den σ v' = den σ v ∧ (wf σ v → wf σ v') := by
  unfold decV at h
  split at h
  · rename_i t
    split at h <;> simp at h
    obtain ⟨rfl, rfl, rfl⟩ := h
    have e : t = _ := hc.1
    subst e
    exact ⟨rfl, fun _ => trivial⟩
  · simp at h
    obtain ⟨rfl, rfl, rfl⟩ := h
    exact ⟨rfl, id⟩

/-- 0: looks at slots alone; 1: reads memory; 2: the others -/
def clsOp : Op → Nat
  | .move _ | .assign _ | .pick .. | .binOp .. | .unOp .. | .extract .. | .makeFunc .. | .makeInterface .. | .fieldAddr .. | .index .. | .field .. | .build .. | .nilCheck _ => 0
  | .load .. | .convert .. | .indexAddr .. | .slice .. => 1
  | .call c => match c.callee with
    | .builtin .max => 0 | .builtin .min => 0
    | .builtin .len => 1 | .builtin .cap => 1
    | _ => 2
  | _ => 2

def opEv (P : Program) (tm : Tm) (h : List AObj) (op : Op) : Bool := match opA P (evalA tm) h op with
  | some r => !(r.upd.isEmpty && r.news.isEmpty)
  | none => true
def opWr (P : Program) (tm : Tm) (h : List AObj) (op : Op) : Bool := match opA P (evalA tm) h op with
  | some r => !r.upd.isEmpty
  | none => true
/-- does an operation turn the abstract heap? -/
def evA (P : Program) (tm : Tm) (h : List AObj) (o : Oper) (orc : List Orc) : Bool :=
  match o.op with
  | .pick (.tmp _) _ _ => false
  | .call c => match c.callee with
    | .value _ => match orc with
      | .call _ _ [] [] :: _ => false
      | _ => true
    | _ => opEv P tm h o.op
  | .index .. => false
  | .indexAddr .. => false
  | _ => opEv P tm h o.op
/-- does it write, or call something that makes memory? -/
def wrA (P : Program) (tm : Tm) (h : List AObj) (o : Oper) (orc : List Orc) : Bool :=
  match o.op with
  | .pick (.tmp _) _ _ => false
  | .call c => match c.callee with
    | .value _ => match orc with
      | .call _ _ [] [] :: _ => false
      | _ => true
    | _ => opWr P tm h o.op
  | .index .. => false
  | .indexAddr .. => false
  | _ => opWr P tm h o.op

theorem elemA_quiet {h : List AObj} {s : Nat} {x : AV} {n : Int} {r : Res} (hx : elemA h s x n = some r) : r.news = [] ∧ r.upd = [] := by
  unfold elemA at hx
  split at hx
  · split at hx <;> try simp at hx
    split at hx <;> try simp at hx
    split at hx <;> simp at hx <;> subst hx <;> exact ⟨rfl, rfl⟩
  · split at hx <;> try simp at hx
    split at hx <;> try simp at hx
    split at hx <;> simp at hx <;> subst hx <;> exact ⟨rfl, rfl⟩
  · simp at hx
theorem opA_index {P : Program} {ρ : Operand → Option AV} {h : List AObj} {t : TypeId} {x i : Operand} {r : Res} (hx : opA P ρ h (.index t x i) = some r) : r.news = [] ∧ r.upd = [] := by
  simp only [opA] at hx
  split at hx <;> try simp at hx
  · subst hx; exact ⟨rfl, rfl⟩
  · split at hx <;> try simp at hx
    split at hx <;> simp at hx
    subst hx; exact ⟨rfl, rfl⟩
theorem opA_indexAddr {P : Program} {ρ : Operand → Option AV} {h : List AObj} {t : TypeId} {x i : Operand} {r : Res} (hx : opA P ρ h (.indexAddr t x i) = some r) : r.news = [] ∧ r.upd = [] := by
  simp only [opA] at hx
  split at hx <;> try simp at hx
  · split at hx <;> simp at hx
    subst hx; exact ⟨rfl, rfl⟩
  · split at hx <;> simp at hx
    subst hx; exact ⟨rfl, rfl⟩
  · split at hx <;> try simp at hx
    exact elemA_quiet hx
theorem ixA_quiet {P : Program} {tm tm' : Tm} {h h' : List AObj} {op : Op} {i : Nat} {orc orc' : List Orc} {v : AV} {cs : List Prop} (hq : ∀ {ρ : Operand → Option AV} {r : Res}, opA P ρ h op = some r → r.news = [] ∧ r.upd = [])
    (hs : ixA P tm h op i orc = some (v, tm', h', orc', cs)) : h' = h := by
  unfold ixA at hs
  split at hs
  · split at hs <;> simp at hs
    rename_i q hq'
    obtain ⟨-, -, rfl, -⟩ := hs
    obtain ⟨h1, h2⟩ := hq hq'
    simp [h1, h2, applyUpd]
  · split at hs <;> simp at hs
    rename_i q hq'
    obtain ⟨-, -, rfl, -⟩ := hs
    obtain ⟨h1, h2⟩ := hq hq'
    simp [h1, h2, applyUpd]
theorem movA_quiet {tm tm' : Tm} {h h' : List AObj} {x : Nat} {orc orc' : List Orc} {v : AV} {cs : List Prop} (hs : movA tm h x orc = some (v, tm', h', orc', cs)) : h' = h := by
  unfold movA at hs
  split at hs <;> simp at hs <;> (obtain ⟨-, -, rfl, -⟩ := hs; rfl)
theorem nilA_quiet {P : Program} {tm tm' : Tm} {h h' : List AObj} {o : Oper} {t : TypeId} {x : Nat} {b : Bool} {orc orc' : List Orc} {v : AV} {cs : List Prop} (he : opEv P tm h o.op = false)
    (hs : nilA P tm h o t x b orc = some (v, tm', h', orc', cs)) : h' = h := by
  unfold nilA at hs
  split at hs
  · simp at hs; obtain ⟨-, -, rfl, -⟩ := hs; rfl
  · split at hs <;> simp at hs
    rename_i r hr
    obtain ⟨-, -, rfl, -⟩ := hs
    unfold opEv at he
    rw [hr] at he
    simp at he
    rw [he.1, he.2]; simp [applyUpd]
theorem nilA_app {P : Program} {tm tm' : Tm} {h h' : List AObj} {o : Oper} {t : TypeId} {x : Nat} {b : Bool} {orc orc' : List Orc} {v : AV} {cs : List Prop} (he : opWr P tm h o.op = false)
    (hs : nilA P tm h o t x b orc = some (v, tm', h', orc', cs)) : ∃ news, h' = h ++ news := by
  unfold nilA at hs
  split at hs
  · simp at hs; obtain ⟨-, -, rfl, -⟩ := hs; exact ⟨[], by simp⟩
  · split at hs <;> simp at hs
    rename_i r hr
    obtain ⟨-, -, rfl, -⟩ := hs
    unfold opWr at he
    rw [hr] at he
    simp at he
    rw [he]; exact ⟨r.news, rfl⟩
theorem step_quiet {P : Program} {tm tm' : Tm} {h h' : List AObj} {o : Oper} {orc orc' : List Orc} {v : AV} {cs : List Prop}
    (hs : stepA P tm h o orc = some (v, tm', h', orc', cs)) (he : evA P tm h o orc = false) : h' = h := by
  have plain : ∀ {r : Res}, opA P (evalA tm) h o.op = some r → opEv P tm h o.op = false → applyUpd r.upd (h ++ r.news) = h := fun {r} h1 h2 => by
    unfold opEv at h2
    rw [h1] at h2
    simp at h2
    rw [h2.1, h2.2]; simp [applyUpd]
  unfold stepA at hs
  unfold evA at he
  split at hs
  · split at hs <;> try simp at hs
    split at hs <;> simp at hs
    obtain ⟨-, -, rfl, -⟩ := hs
    rfl
  · rename_i c hop
    simp only [hop] at he
    split at hs
    · rename_i f hcal
      simp only [hcal] at he
      split at hs <;> try simp at hs
      rename_i fid caps args ι res upd news r hef hea
      split at hs <;> simp at hs
      rename_i v1 h1 cs1 hca
      obtain ⟨rfl, rfl, rfl, rfl, rfl⟩ := hs
      split at he <;> try simp at he
      rename_i heq
      simp only [List.cons.injEq, Orc.call.injEq] at heq
      obtain ⟨⟨-, -, rfl, rfl⟩, -⟩ := heq
      unfold callA at hca
      split at hca <;> try simp at hca
      rename_i args' hc upd' q1 q2 q3
      obtain ⟨-, -, rfl, -⟩ := hca
      simp [updA] at q3
      subst q3
      simp [applyUpd]
    · rename_i b hcal
      simp only [hcal] at he
      split at hs <;> simp at hs
      rename_i r hop'
      obtain ⟨-, -, rfl, -⟩ := hs
      have he' : opEv P tm h o.op = false := by rw [hop]; exact he
      exact plain hop' he'
  · exact ixA_quiet opA_index hs
  · exact ixA_quiet opA_indexAddr hs
  · exact movA_quiet hs
  · exact movA_quiet hs
  · rename_i hop
    simp only [hop] at he
    exact nilA_quiet (by rw [hop]; exact he) hs
  · rename_i hop
    simp only [hop] at he
    exact nilA_quiet (by rw [hop]; exact he) hs
  · rename_i it hop
    simp [hop, opEv, opA] at he
  · rename_i hnp hnc _ _ _ _ _ _ _
    split at hs <;> simp at hs
    rename_i r hop'
    obtain ⟨-, -, rfl, -⟩ := hs
    cases hop : o.op <;> simp only [hop] at he hnp hnc <;> try exact plain hop' (by rw [hop]; exact he)
    · rename_i c a b
      cases c <;> simp only at he <;> first | exact plain hop' (by rw [hop]; exact he) | exact (hnp _ _ _ rfl).elim
    · rw [hop] at hop'
      obtain ⟨h1, h2⟩ := opA_indexAddr hop'
      simp [h1, h2, applyUpd]
    · rw [hop] at hop'
      obtain ⟨h1, h2⟩ := opA_index hop'
      simp [h1, h2, applyUpd]
    · exact (hnc _ rfl).elim
theorem step_app {P : Program} {tm tm' : Tm} {h h' : List AObj} {o : Oper} {orc orc' : List Orc} {v : AV} {cs : List Prop}
    (hs : stepA P tm h o orc = some (v, tm', h', orc', cs)) (he : wrA P tm h o orc = false) : ∃ news, h' = h ++ news := by
  have plain : ∀ {r : Res}, opA P (evalA tm) h o.op = some r → opWr P tm h o.op = false → ∃ news, applyUpd r.upd (h ++ r.news) = h ++ news := fun {r} h1 h2 => by
    unfold opWr at h2
    rw [h1] at h2
    simp at h2
    rw [h2]; exact ⟨r.news, rfl⟩
  have quiet : evA P tm h o orc = false → ∃ news, h' = h ++ news := fun h1 => ⟨[], by rw [step_quiet hs h1]; simp⟩
  by_cases hq : evA P tm h o orc = false
  · exact quiet hq
  unfold wrA at he
  unfold evA at hq
  unfold stepA at hs
  split at hs
  · rename_i c x y hop
    simp [hop] at hq
  · rename_i c hop
    simp only [hop] at he hq
    split at hs
    · rename_i f hcal
      simp only [hcal] at he hq
      exact absurd he (by simpa using hq)
    · rename_i b hcal
      simp only [hcal] at he
      split at hs <;> simp at hs
      rename_i r hop'
      obtain ⟨-, -, rfl, -⟩ := hs
      exact plain hop' (by rw [hop]; exact he)
  · rename_i t x i hop; simp [hop] at hq
  · rename_i t x i hop; simp [hop] at hq
  · exact ⟨[], by rw [movA_quiet hs]; simp⟩
  · exact ⟨[], by rw [movA_quiet hs]; simp⟩
  · rename_i hop
    simp only [hop] at he
    exact nilA_app (by rw [hop]; exact he) hs
  · rename_i hop
    simp only [hop] at he
    exact nilA_app (by rw [hop]; exact he) hs
  · rename_i it hop
    simp [hop, opWr, opA] at he
  · rename_i hnp hnc _ _ _ _ _ _ _
    split at hs <;> simp at hs
    rename_i r hop'
    obtain ⟨-, -, rfl, -⟩ := hs
    cases hop : o.op <;> simp only [hop] at he hnp hnc hq <;> try exact plain hop' (by rw [hop]; exact he)
    · rename_i c a b
      cases c <;> simp only at he <;> first | exact plain hop' (by rw [hop]; exact he) | exact (hnp _ _ _ rfl).elim
    · simp at hq
    · simp at hq
    · exact (hnc _ rfl).elim

structure DRec where
  tm : Tm
  h : List AObj
  run : Bool
  v : AV
  ev : Bool
  wr : Bool
  ws : Option (List Nat)
  rd : Option (List Nat)
  ci : List Nat

mutual
/-- a value without blocks -/
def plainV : AV → Bool
  | .v _ => true
  | .b _ => true
  | .tup l => plainL l
  | .agg l => plainL l
  | _ => false
def plainL : List AV → Bool
  | [] => true
  | x :: l => plainV x && plainL l
end
mutual
theorem rn_plain (m : Nat → Nat) : ∀ {x : AV}, plainV x = true → rn m x = x
  | .v _, _ => rfl
  | .b _, _ => rfl
  | .tup l, h => by simp only [plainV] at h; simp only [rn]; rw [rnL_plain m h]
  | .agg l, h => by simp only [plainV] at h; simp only [rn]; rw [rnL_plain m h]
  | .ptr .., h => by simp [plainV] at h
  | .pe .., h => by simp [plainV] at h
  | .sw .., h => by simp [plainV] at h
  | .sn .., h => by simp [plainV] at h
  | .sl .., h => by simp [plainV] at h
  | .fn .., h => by simp [plainV] at h
  | .mv .., h => by simp [plainV] at h
  | .ifc .., h => by simp [plainV] at h
theorem rnL_plain (m : Nat → Nat) : ∀ {l : List AV}, plainL l = true → rnL m l = l
  | [], _ => rfl
  | x :: l, h => by simp only [plainL, Bool.and_eq_true] at h; simp only [rnL]; rw [rn_plain m h.1, rnL_plain m h.2]
end
theorem invH_mono {ι : List Nat} {h g : List AObj} : ∀ {l : List Nat} {m : List AObj}, invH ι h l = some m → (∀ b ∈ l, ∀ o, h[b]? = some o → g[b]? = some o) → invH ι g l = some m
  | [], m, hh, _ => hh
  | x :: l, m, hh, ha => by
    simp only [invH] at hh ⊢
    split at hh <;> try simp at hh
    rename_i o ho
    rw [ha x (by simp) o ho]
    split at hh <;> simp at hh
    rename_i o' m' h1 h2
    rw [invH_mono h2 (fun b hb => ha b (by simp [hb]))]
    simp [h1, hh]
/-- the blocks that a call sees, where it neither writes nor makes memory and tells no block -/
def rdA (o : Oper) (orc : List Orc) : Option (List Nat) := match o.op with
  | .call c => match c.callee with
    | .value _ => match orc with
      | .call ι res [] [] :: _ => if plainV res = true then some ι else none
      | _ => none
    | _ => none
  | _ => none
theorem stepA_rd {P : Program} {tm tm' : Tm} {h h' g : List AObj} {o : Oper} {orc orc' : List Orc} {v : AV} {cs : List Prop} {ι : List Nat}
    (hs : stepA P tm h o orc = some (v, tm', h', orc', cs)) (hr : rdA o orc = some ι) (ha : ∀ b ∈ ι, ∀ ob, h[b]? = some ob → g[b]? = some ob) : stepA P tm g o orc = some (v, tm', g, orc', cs) := by
  unfold rdA at hr
  split at hr <;> try simp at hr
  rename_i c hop
  split at hr <;> try simp at hr
  rename_i f hcal
  split at hr <;> try simp at hr
  rename_i ι' res r
  obtain ⟨hp, rfl⟩ := hr
  unfold stepA at hs ⊢
  simp only [hop, hcal] at hs ⊢
  split at hs <;> try simp at hs
  rename_i fid caps args ι2 res2 upd2 news2 r2 e1 e2 e3
  simp at e3
  obtain ⟨⟨rfl, rfl, rfl, rfl⟩, rfl⟩ := e3
  split at hs <;> simp at hs
  rename_i v1 h1 cs1 hcall
  obtain ⟨rfl, rfl, rfl, rfl, rfl⟩ := hs
  have : callA P g fid (args ++ caps) ι' res [] [] = some (v1, g, cs1) := by
    unfold callA at hcall ⊢
    split at hcall <;> try simp at hcall
    rename_i a' hc u' q1 q2 q3
    rw [q1, invH_mono q2 ha]
    simp only [updA, Option.some.injEq] at q3 ⊢
    subst q3
    obtain ⟨k1, k2, k3, k4⟩ := hcall
    rw [if_pos k1]
    rw [rn_plain _ hp] at k2 ⊢
    subst k2; subst k4
    simp [applyUpd]
  rw [this]
/-- a call that may go beside what another one does -/
def rdOk (n0 : Nat) (rd ws : Option (List Nat)) (wr : Bool) : Bool := match rd with
  | some ι => ι.all (fun b => decide (b < n0)) && (!wr || (match ws with | some l => ι.all (fun b => !l.contains b) | none => false))
  | none => false
/-- the blocks that a call may write, where they are known -/
def wsA (P : Program) (tm : Tm) (h : List AObj) (o : Oper) (orc : List Orc) : Option (List Nat) := match o.op with
  | .store .. => match opA P (evalA tm) h o.op with
    | some r => some (r.upd.map (·.1))
    | none => none
  | .call c => match c.callee with
    | .value _ => match orc with
      | .call ι _ upd _ :: _ => match updA ι (renameF ι h.length) upd with
        | some u => some (u.map (·.1))
        | none => none
      | _ => none
    | .builtin _ => match opA P (evalA tm) h o.op with
      | some r => some (r.upd.map (·.1))
      | none => none
    | _ => none
  | _ => none
/-- the blocks that a call sees -/
def cιA (o : Oper) (orc : List Orc) : List Nat := match o.op with
  | .call c => match c.callee with
    | .value _ => match orc with
      | .call ι _ _ _ :: _ => ι
      | _ => []
    | _ => []
  | _ => []
/-- operations that make memory and read none -/
def faOp : Op → Bool
  | .alloc _ => true
  | .box .. => true
  | .makeSlice .. => true
  | .buildSlice .. => true
  | _ => false
theorem wsA_keeps {P : Program} {tm tm' : Tm} {h h' : List AObj} {o : Oper} {orc orc' : List Orc} {v : AV} {cs : List Prop} {l : List Nat}
    (hs : stepA P tm h o orc = some (v, tm', h', orc', cs)) (hw : wsA P tm h o orc = some l) {b : Nat} (hb : b ∉ l) (hl : b < h.length) : h'[b]? = h[b]? := by
  unfold wsA at hw
  split at hw <;> try simp at hw
  · rename_i hop
    split at hw <;> simp at hw
    rename_i r hr
    subst hw
    unfold stepA at hs
    simp only [hop] at hs hr
    rw [hr] at hs
    simp at hs
    obtain ⟨-, -, rfl, -⟩ := hs
    rw [applyUpd_out (fun p hp e => hb (List.mem_map.2 ⟨p, hp, e⟩)), List.getElem?_append_left hl]
  rename_i c hop
  split at hw <;> try simp at hw
  rotate_left
  · rename_i f hcal
    split at hw <;> simp at hw
    rename_i r hr
    subst hw
    unfold stepA at hs
    simp only [hop, hcal] at hs
    rw [hop] at hr
    rw [hr] at hs
    simp at hs
    obtain ⟨-, -, rfl, -⟩ := hs
    rw [applyUpd_out (fun p hp e => hb (List.mem_map.2 ⟨p, hp, e⟩)), List.getElem?_append_left hl]
  rename_i f hcal
  split at hw <;> try simp at hw
  rename_i ι res upd news r
  split at hw <;> simp at hw
  rename_i u hu
  subst hw
  unfold stepA at hs
  simp only [hop, hcal] at hs
  split at hs <;> try simp at hs
  rename_i fid caps args ι' res' upd' news' r' e1 e2 e3
  split at hs <;> simp at hs
  rename_i v1 h1 cs1 hcall
  obtain ⟨-, -, rfl, -, -⟩ := hs
  simp at e3
  obtain ⟨⟨rfl, rfl, rfl, rfl⟩, rfl⟩ := e3
  unfold callA at hcall
  split at hcall <;> try simp at hcall
  rename_i a' hc u' q1 q2 q3
  rw [hu] at q3; obtain rfl := Option.some.inj q3
  obtain ⟨-, -, rfl, -⟩ := hcall
  rw [List.getElem?_append_left (by rw [applyUpd_length]; exact hl), applyUpd_out (fun p hp e => hb (List.mem_map.2 ⟨p, hp, e⟩))]

def drawGo (P : Program) (ops : List Oper) : List Oper → Tm → List AObj → List Orc → Option (List DRec × Tm × List AObj × List Orc × List Prop)
  | [], tm, h, orc => some ([], tm, h, orc, [])
  | o :: l, tm, h, orc =>
    match wantA ops (keepT (looksL ops o) 0 tm) o [] with
    | some (true, _, _, cs1) => match stepA P (keepT (looksL ops o) 0 tm) h o orc with
      | some (v, _, h', orc1, cs2) => match decV (usedB ops o.dst) v orc1 with
        | some (v', orc2, cs3) => match drawGo P ops l (putT tm o.dst v') h' orc2 with
          | some (R, tmF, hF, orcF, cs4) => some (⟨tm, h, true, v', evA P (keepT (looksL ops o) 0 tm) h o orc || wrA P (keepT (looksL ops o) 0 tm) h o orc, wrA P (keepT (looksL ops o) 0 tm) h o orc, wsA P (keepT (looksL ops o) 0 tm) h o orc, rdA o orc, cιA o orc⟩ :: R, tmF, hF, orcF, cs1 ++ (cs2 ++ (cs3 ++ cs4)))
          | none => none
        | none => none
      | none => none
    | some (false, _, _, cs1) => match drawGo P ops l (putT tm o.dst (.tup [])) h orc with
      | some (R, tmF, hF, orcF, cs4) => some (⟨tm, h, false, .tup [], false, false, none, none, []⟩ :: R, tmF, hF, orcF, cs1 ++ cs4)
      | none => none
    | none => none

/-- what is known of an operation of a region, whenever it comes -/
structure Fact (P : Program) (ops : Array Oper) (o : Oper) (r : DRec) (tm' : Tm) (h' : List AObj) : Prop where
  tmn : tm' = putT r.tm o.dst r.v
  want : ∀ dl σ a, TR dl σ (keepT (looksL ops.toList o) 0 r.tm) a → Region.wanted o (yielded ops a.tmps) = r.run
  skip : r.run = false → h' = r.h ∧ r.v = .tup [] ∧ r.ev = false ∧ r.wr = false
  run : r.run = true → ∃ orc v0 tm1 orc1 cs2, stepA P (keepT (looksL ops.toList o) 0 r.tm) r.h o orc = some (v0, tm1, h', orc1, cs2) ∧ All cs2 ∧
    (∀ σ, den σ r.v = den σ v0 ∧ (wf σ v0 → wf σ r.v)) ∧ r.ev = (evA P (keepT (looksL ops.toList o) 0 r.tm) r.h o orc || wrA P (keepT (looksL ops.toList o) 0 r.tm) r.h o orc) ∧ r.wr = wrA P (keepT (looksL ops.toList o) 0 r.tm) r.h o orc ∧ r.ws = wsA P (keepT (looksL ops.toList o) 0 r.tm) r.h o orc ∧ r.rd = rdA o orc ∧ r.ci = cιA o orc

def tmAt (R : List DRec) (tmF : Tm) (k : Nat) : Tm := match R[k]? with | some r => r.tm | none => tmF
def hAt (R : List DRec) (hF : List AObj) (k : Nat) : List AObj := match R[k]? with | some r => r.h | none => hF

theorem drawGo_facts {P : Program} {ops : Array Oper} : ∀ {l : List Oper} {tm tmF : Tm} {h hF : List AObj} {orc orcF : List Orc} {R : List DRec} {cs : List Prop},
    drawGo P ops.toList l tm h orc = some (R, tmF, hF, orcF, cs) → All cs →
    R.length = l.length ∧ tmAt R tmF 0 = tm ∧ hAt R hF 0 = h ∧ ∀ (k : Nat) (o : Oper), l[k]? = some o → ∃ r, R[k]? = some r ∧ Fact P ops o r (tmAt R tmF (k + 1)) (hAt R hF (k + 1))
  | [], tm, tmF, h, hF, orc, orcF, R, cs, hd, hc => by
    simp [drawGo] at hd
    obtain ⟨rfl, rfl, rfl, rfl, rfl⟩ := hd
    exact ⟨rfl, rfl, rfl, fun k o h => by simp at h⟩
  | o :: l, tm, tmF, h, hF, orc, orcF, R, cs, hd, hc => by
    simp only [drawGo] at hd
    split at hd <;> try simp at hd
    · rename_i tm1 orc1' cs1 hwant
      split at hd <;> try simp at hd
      rename_i v tm2 h' orc1 cs2 hstep
      split at hd <;> try simp at hd
      rename_i v' orc2 cs3 hdec
      split at hd <;> simp at hd
      rename_i R' tmF' hF' orcF' cs4 hrest
      obtain ⟨rfl, rfl, rfl, rfl, rfl⟩ := hd
      rw [All_append, All_append, All_append] at hc
      obtain ⟨c1, c2, c3, c4⟩ := hc
      obtain ⟨i1, i2, i3, i4⟩ := drawGo_facts hrest c4
      refine ⟨by simp [i1], rfl, rfl, fun k o' ho' => ?_⟩
      cases k with
      | zero =>
        simp at ho'; subst ho'
        refine ⟨_, rfl, ?_, fun dl σ a ht => (wantA_sound hwant c1 ht).2, fun hh => by simp at hh, fun _ => ⟨orc, v, tm2, orc1, cs2, ?_, c2, fun σ => decV_den hdec c3 σ, rfl, rfl, rfl, rfl, rfl⟩⟩
        · exact i2
        · show stepA P _ h o orc = some (v, tm2, hAt R' _ 0, orc1, cs2)
          rw [i3]; exact hstep
      | succ k => exact i4 k o' (by simpa using ho')
    · rename_i tm1 orc1' cs1 hwant
      split at hd <;> simp at hd
      rename_i R' tmF' hF' orcF' cs4 hrest
      obtain ⟨rfl, rfl, rfl, rfl, rfl⟩ := hd
      rw [All_append] at hc
      obtain ⟨i1, i2, i3, i4⟩ := drawGo_facts hrest hc.2
      refine ⟨by simp [i1], rfl, rfl, fun k o' ho' => ?_⟩
      cases k with
      | zero =>
        simp at ho'; subst ho'
        exact ⟨_, rfl, i2, fun dl σ a ht => (wantA_sound hwant hc.1 ht).2, fun _ => ⟨i3, rfl, rfl, rfl⟩, fun hh => by simp at hh⟩
      | succ k => exact i4 k o' (by simpa using ho')

/-- the operations that come before each, as bits -/
def masks : List Oper → List Nat → List Nat
  | [], acc => acc
  | o :: l, acc => masks l (acc ++ [o.after.toList.foldl (fun s e => if Region.binds .any e then s ||| (2 ^ e.on) ||| (acc.getD e.on 0) else s) 0])
def bef (ms : List Nat) (k j : Nat) : Bool := (ms.getD k 0).testBit j
/-- the block that a value leads to -/
def blk1 : AV → Option Nat
  | .ptr b _ => some b
  | .pe b _ _ _ => some b
  | .sw b _ => some b
  | .sn b _ => some b
  | .sl b .. => some b
  | .mp b => some b
  | _ => none
/-- what an operation looks at lies apart from these blocks -/
def apart (tm : Tm) (l : List Nat) : Bool := tm.all fun x => match x with
  | some y => match blk1 y with
    | some b => !l.contains b
    | none => true
  | none => true
/-- the order of a region does not matter -/
def drawOk (ops : List Oper) (R : List DRec) (ms : List Nat) : Bool :=
  (List.range ops.length).all fun k => match ops[k]?, R[k]? with
    | some ok, some rk => ok.after.toList.all (fun e => !Region.binds .any e || e.on < k) &&
      (List.range ops.length).all fun j => k == j || match ops[j]?, R[j]? with
        | some oj, some rj =>
          (match ok.dst, oj.dst with | some a, some b => a != b | _, _ => true) &&
          (match oj.dst with | some d => !((looksL ops ok).any (fun t => t == d)) || bef ms k j || bef ms j k | none => true) &&
          (!(rk.ev && rj.ev) || faOp ok.op || faOp oj.op || bef ms k j || bef ms j k) &&
          (!rk.run || !rj.wr || clsOp ok.op == 0 || faOp ok.op || bef ms k j || bef ms j k || (clsOp ok.op == 1 && (match rj.ws with | some l => apart (keepT (looksL ops ok) 0 rk.tm) l | none => false)) || rdOk (match R with | r0 :: _ => r0.h.length | [] => 0) rk.rd rj.ws true) &&
          (!rk.run || !rj.ev || clsOp ok.op != 2 || faOp ok.op || faOp oj.op || bef ms k j || bef ms j k || rdOk (match R with | r0 :: _ => r0.h.length | [] => 0) rk.rd rj.ws rj.wr) &&
          (!rk.run || !faOp ok.op || !rj.run || faOp oj.op || bef ms k j || bef ms j k || ((!rj.wr || (match rj.ws with | some l => !l.contains rk.h.length | none => false)) && !rj.ci.contains rk.h.length))
        | _, _ => false
    | _, _ => false
end Go.Abs
