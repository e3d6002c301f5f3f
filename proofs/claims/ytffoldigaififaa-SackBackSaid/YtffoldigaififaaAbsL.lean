import Derived.Test.YtffoldigaififaaAbsLg
import Derived.Scope
set_option linter.unusedVariables false
set_option linter.unusedSimpArgs false
/- Code, loops, functions. -/
namespace Go.Abs
variable {dl : List Deferred}

def renT (κ : List Nat) : Tm → Tm
  | [] => []
  | none :: l => none :: renT κ l
  | some x :: l => (match inv κ x with | some y => some y | none => none) :: renT κ l
def pinned (κ : List Nat) : Nat → Bool
  | 0 => true
  | n + 1 => (match κ[n]? with | some b => b == n | none => false) && pinned κ n

abbrev RunR := Option (AExit × Tm × List AObj × List Orc × List Prop)
def regA (P : Program) (ops : Array Oper) (draw : Bool) (tm : Tm) (h : List AObj) (orc : List Orc) : RunR :=
  match noDef ops.toList, draw with
  | true, false => match seqA P ops.toList ops.toList tm h orc with
    | some (tm', h', orc', cs) => some (.normal, tm', h', orc', cs)
    | none => none
  | true, true => match drawGo P ops.toList ops.toList tm h orc with
    | some (R, tm', h', orc', cs) => match drawOk ops.toList R (masks ops.toList []) with
      | true => some (.normal, tm', h', orc', Mixed P :: cs)
      | false => none
    | none => none
  | _, _ => none
def loopO (P : Program) (n : Nat) (c : Code) (tm : Tm) (h : List AObj) (orc : List Orc) : RunR :=
  match orc with
  | .loop keep κ e tm1 h1 :: orc1 => match invH κ h κ with
    | some hκ => if nodupB κ = true ∧ pinned κ n = true ∧ n ≤ h1.length then
        some (e, tm1, h1, orc1, [ARun P n c (renT κ (keepT keep 0 tm)) hκ e tm1 h1]) else none
    | none => none
  | _ => none
/-- so many rounds ahead, then the loop -/
def iterA (P : Program) (f fin : Tm → List AObj → List Orc → RunR) : Nat → Tm → List AObj → List Orc → RunR
  | 0, tm, h, orc => match popG P orc tm h with
    | some (tm1, h1, orc1) => fin tm1 h1 orc1
    | none => none
  | k + 1, tm, h, orc => match f tm h orc with
    | some (.normal, tm1, h1, orc1, cs1) => match iterA P f fin k tm1 h1 orc1 with
      | some (e, tm2, h2, orc2, cs2) => some (e, tm2, h2, orc2, cs1 ++ cs2)
      | none => none
    | r => r
def endA (P : Program) (e : AExit) (tm : Tm) (h : List AObj) (orc : List Orc) : RunR := match popG P orc tm h with
  | some (tm1, h1, orc1) => some (e, tm1, h1, orc1, [])
  | none => none
def runA (P : Program) (n : Nat) : Code → Tm → List AObj → List Orc → RunR
  | .skip, tm, h, orc => endA P .normal tm h orc
  | .label _, tm, h, orc => endA P .normal tm h orc
  | .region _ ops draw, tm, h, orc => match popG P orc tm h with
    | some (tm1, h1, orc1) => regA P ops draw tm1 h1 orc1
    | none => none
  | .seq a b, tm, h, orc => match runA P n a tm h orc with
    | some (.normal, tm1, h1, orc1, cs1) => match runA P n b tm1 h1 orc1 with
      | some (e, tm2, h2, orc2, cs2) => some (e, tm2, h2, orc2, cs1 ++ cs2)
      | none => none
    | r => r
  | .cond (.tmp d) x y, tm, h, orc => match decideT tm d orc with
    | some (true, tm1, orc1, cs1) => match runA P n x tm1 h orc1 with
      | some (e, tm2, h2, orc2, cs2) => some (e, tm2, h2, orc2, cs1 ++ cs2)
      | none => none
    | some (false, tm1, orc1, cs1) => match runA P n y tm1 h orc1 with
      | some (e, tm2, h2, orc2, cs2) => some (e, tm2, h2, orc2, cs1 ++ cs2)
      | none => none
    | none => none
  | .block id c, tm, h, orc => match runA P n c tm h orc with
    | some (.exit id', tm1, h1, orc1, cs1) => if id' = id then some (.normal, tm1, h1, orc1, cs1) else some (.exit id', tm1, h1, orc1, cs1)
    | r => r
  | .loop c, tm, h, orc => match popG P (finG orc) tm h with
    | some (tm1, h1, .peel k :: r) => iterA P (fun a b o => runA P n c a b o) (loopO P n (.loop c)) k tm1 h1 r
    | some (tm1, h1, r) => loopO P n (.loop c) tm1 h1 r
    | none => none
  | .rangeFunc g ps x y, tm, h, orc => match popG P (finG orc) tm h with
    | some (tm1, h1, r) => loopO P n (.rangeFunc g ps x y) tm1 h1 r
    | none => none
  | .scope c, tm, h, orc => runA P n c tm h orc
  | .exit id, tm, h, orc => endA P (.exit id) tm h orc
  | .ret, tm, h, orc => endA P .ret tm h orc
  | _, _, _, _ => none

theorem renT_get {κ : List Nat} : ∀ {tm : Tm} {t : Nat} {y : AV}, (renT κ tm)[t]? = some (some y) → ∃ x, tm[t]? = some (some x) ∧ inv κ x = some y
  | [], t, y, h => by simp [renT] at h
  | none :: l, t, y, h => by
    cases t with
    | zero => simp [renT] at h
    | succ t => simp only [renT, List.getElem?_cons_succ] at h ⊢; exact renT_get h
  | some x :: l, t, y, h => by
    cases t with
    | zero =>
      simp only [renT, List.getElem?_cons_zero, Option.some.injEq] at h
      refine ⟨x, rfl, ?_⟩
      split at h
      · rename_i y' hy; simp at h; subst h; exact hy
      · simp at h
    | succ t => simp only [renT, List.getElem?_cons_succ] at h ⊢; exact renT_get h
theorem renT_length {κ : List Nat} : ∀ {tm : Tm}, (renT κ tm).length = tm.length
  | [] => rfl
  | none :: l => by simp [renT, renT_length]
  | some x :: l => by simp [renT, renT_length]
theorem pinned_get {κ : List Nat} : ∀ {n : Nat}, pinned κ n = true → ∀ b, b < n → κ[b]? = some b
  | 0, _, b, hb => by omega
  | n + 1, h, b, hb => by
    simp only [pinned, Bool.and_eq_true] at h
    by_cases e : b = n
    · subst e
      have := h.1
      split at this
      · rename_i x hx; rw [hx]; simp at this; rw [this]
      · simp at this
    · exact pinned_get h.2 b (by omega)

theorem Went.pre {P : Program} {σ σ0 σ' : Sg} {h h0 h' : List AObj} {w w' : World} (a : Went P σ0 h0 w σ' h' w') (hi : ∀ r, Go.Abs.img σ0 h0 r → Go.Abs.img σ h r) (hi2 : ∀ r, wimg σ0 h0 r → wimg σ h r) : Went P σ h w σ' h' w' :=
  ⟨a.rel, a.full, a.frm.mono (fun r hr => .inl (hi2 r hr)), fun r hr => by
    rcases a.img r hr with k | k
    · exact .inl (hi r k)
    · exact .inr k, fun r hr => by
    rcases a.wim r hr with k | k
    · exact .inl (hi2 r k)
    · exact .inr k⟩

theorem drawGo_length {P : Program} {ops : List Oper} : ∀ {l : List Oper} {tm tmF : Tm} {h hF : List AObj} {orc orcF : List Orc} {R : List DRec} {cs : List Prop},
    drawGo P ops l tm h orc = some (R, tmF, hF, orcF, cs) → h.length ≤ hF.length
  | [], tm, tmF, h, hF, orc, orcF, R, cs, hd => by
    simp [drawGo] at hd
    obtain ⟨-, -, rfl, -⟩ := hd
    exact Nat.le_refl _
  | o :: l, tm, tmF, h, hF, orc, orcF, R, cs, hd => by
    simp only [drawGo] at hd
    split at hd <;> try simp at hd
    · split at hd <;> try simp at hd
      rename_i v tm2 h' orc1 cs2 hstep
      split at hd <;> try simp at hd
      split at hd <;> simp at hd
      rename_i hrest
      obtain ⟨-, -, rfl, -⟩ := hd
      exact Nat.le_trans (stepA_length hstep) (drawGo_length hrest)
    · split at hd <;> simp at hd
      rename_i hrest
      obtain ⟨-, -, rfl, -⟩ := hd
      exact drawGo_length hrest

theorem endA_length {P : Program} {n : Nat} {e e' : AExit} {tm tm' : Tm} {h h' : List AObj} {orc orc' : List Orc} {cs : List Prop} (hs : endA P e tm h orc = some (e', tm', h', orc', cs)) (hn : n ≤ h.length) : n ≤ h'.length := by
  unfold endA at hs
  split at hs <;> simp at hs
  rename_i hp
  obtain ⟨-, -, rfl, -⟩ := hs
  exact Nat.le_trans hn (popG_length hp)
theorem regA_length {P : Program} {n : Nat} {ops : Array Oper} {draw : Bool} {e' : AExit} {tm tm' : Tm} {h h' : List AObj} {orc orc' : List Orc} {cs : List Prop} (hs : regA P ops draw tm h orc = some (e', tm', h', orc', cs)) (hn : n ≤ h.length) : n ≤ h'.length := by
  unfold regA at hs
  split at hs
  · split at hs <;> simp at hs
    rename_i hseq
    obtain ⟨-, -, rfl, -⟩ := hs
    exact Nat.le_trans hn (seqA_length hseq)
  · split at hs <;> try simp at hs
    rename_i R tm1 h1 orc1 cs1 hd
    split at hs <;> simp at hs
    obtain ⟨-, -, rfl, -⟩ := hs
    exact Nat.le_trans hn (drawGo_length hd)
  · simp at hs
theorem loopO_length {P : Program} {n : Nat} {c : Code} {e' : AExit} {tm tm' : Tm} {h h' : List AObj} {orc orc' : List Orc} {cs : List Prop} (hs : loopO P n c tm h orc = some (e', tm', h', orc', cs)) : n ≤ h'.length := by
  unfold loopO at hs
  split at hs <;> try simp at hs
  split at hs <;> try simp at hs
  obtain ⟨⟨-, -, h3⟩, -, -, rfl, -⟩ := hs
  exact h3
theorem iterA_length {P : Program} {n : Nat} {c : Code} {f : Tm → List AObj → List Orc → RunR} (hf : ∀ {tm h orc e tm' h' orc' cs}, f tm h orc = some (e, tm', h', orc', cs) → n ≤ h.length → n ≤ h'.length) :
    ∀ {k : Nat} {e' : AExit} {tm tm' : Tm} {h h' : List AObj} {orc orc' : List Orc} {cs : List Prop}, iterA P f (loopO P n (.loop c)) k tm h orc = some (e', tm', h', orc', cs) → n ≤ h.length → n ≤ h'.length
  | 0, e', tm, tm', h, h', orc, orc', cs, hs, hn => by
    simp only [iterA] at hs
    split at hs <;> try simp at hs
    exact loopO_length hs
  | k + 1, e', tm, tm', h, h', orc, orc', cs, hs, hn => by
    simp only [iterA] at hs
    split at hs
    · rename_i ha
      split at hs <;> simp at hs
      rename_i hb
      obtain ⟨-, -, rfl, -⟩ := hs
      exact iterA_length hf hb (hf ha hn)
    · exact hf hs hn
theorem runA_length {P : Program} {n : Nat} : ∀ {c : Code} {tm tm' : Tm} {h h' : List AObj} {orc orc' : List Orc} {e : AExit} {cs : List Prop},
    runA P n c tm h orc = some (e, tm', h', orc', cs) → n ≤ h.length → n ≤ h'.length := by
  intro c
  induction c with
  | skip => intro tm tm' h h' orc orc' e cs hs hn; exact endA_length hs hn
  | label l => intro tm tm' h h' orc orc' e cs hs hn; exact endA_length hs hn
  | exit id => intro tm tm' h h' orc orc' e cs hs hn; exact endA_length hs hn
  | ret => intro tm tm' h h' orc orc' e cs hs hn; exact endA_length hs hn
  | region id ops draw =>
    intro tm tm' h h' orc orc' e cs hs hn
    simp only [runA] at hs
    split at hs <;> try simp at hs
    rename_i hp
    exact regA_length hs (Nat.le_trans hn (popG_length hp))
  | seq a b iha ihb =>
    intro tm tm' h h' orc orc' e cs hs hn
    simp only [runA] at hs
    split at hs
    · rename_i tm1 h1 orc1 cs1 ha
      split at hs <;> simp at hs
      rename_i e2 tm2 h2 orc2 cs2 hb
      obtain ⟨-, -, rfl, -⟩ := hs
      exact ihb hb (iha ha hn)
    · exact iha hs hn
  | cond c x y ihx ihy =>
    intro tm tm' h h' orc orc' e cs hs hn
    cases c with
    | tmp d =>
      simp only [runA] at hs
      split at hs
      · split at hs <;> simp at hs
        rename_i hx
        obtain ⟨-, -, rfl, -⟩ := hs
        exact ihx hx hn
      · split at hs <;> simp at hs
        rename_i hy
        obtain ⟨-, -, rfl, -⟩ := hs
        exact ihy hy hn
      · simp at hs
    | _ => simp [runA] at hs
  | scope c ih =>
    intro tm tm' h h' orc orc' e cs hs hn
    simp only [runA] at hs
    exact ih hs hn
  | block id c ih =>
    intro tm tm' h h' orc orc' e cs hs hn
    simp only [runA] at hs
    split at hs
    · rename_i hc
      split at hs <;> simp at hs <;> obtain ⟨-, -, rfl, -⟩ := hs <;> exact ih hc hn
    · exact ih hs hn
  | loop c ih =>
    intro tm tm' h h' orc orc' e cs hs hn
    simp only [runA] at hs
    split at hs <;> try simp at hs
    · rename_i hp
      exact iterA_length (fun h1 h2 => ih h1 h2) hs (Nat.le_trans hn (popG_length hp))
    · exact loopO_length hs
  | rangeFunc g ps x y ihx ihy =>
    intro tm tm' h h' orc orc' e cs hs hn
    simp only [runA] at hs
    split at hs <;> try simp at hs
    exact loopO_length hs
  | _ => intro tm tm' h h' orc orc' e cs hs hn; simp [runA] at hs

theorem steps_next {P : Program} {m m1 z : Machine} (h : step P m = .next m1) (hz : Steps P m z) (hne : m ≠ z) : Steps P m1 z := by
  obtain ⟨n, hn⟩ := hz
  cases n with
  | zero => simp [runN] at hn; exact absurd hn hne
  | succ n => simp only [runN, h] at hn; exact ⟨n, hn⟩
theorem exitTo_length {id : Nat} : ∀ {k k' : List Item}, exitTo id k = some k' → k'.length ≤ k.length
  | [], k', h => by simp [exitTo] at h
  | x :: k, k', h => by
    cases x <;> simp only [exitTo] at h <;> first
      | (have := exitTo_length h; simp; omega)
      | (split at h
         · simp at h; subst h; simp
         · have := exitTo_length h; simp; omega)
theorem lone_ne {b : Frame} {a a' : Act} {k k' : List Item} {cs : List Frame} {w w' : World} (h : k'.length < k.length) : lone (b.at a k) cs w ≠ lone (b.at a' k') cs w' := by
  intro he
  have := congrArg (fun m : Machine => (m.gs[0]?).map (fun g => g.frame.todo.length)) he
  simp [lone, Frame.at] at this
  omega
theorem lone_ne_ret {b : Frame} {a a' : Act} {k todo : List Item} {cs : List Frame} {w w' : World} : lone (b.at a k) cs w ≠ lone { b.at a' todo with mode := .returning } cs w' := by
  intro he
  have := congrArg (fun m : Machine => (m.gs[0]?).map (fun g => match g.frame.mode with | .run => true | _ => false)) he
  simp [lone, Frame.at] at this

/-- a loop: one round that goes on, and the rest -/
theorem stepsIn_next {I : Machine → Prop} {P : Program} {m m1 z : Machine} (h : step P m = .next m1) (hz : StepsIn I P m z) (hne : m ≠ z) : StepsIn I P m1 z := by
  cases hz with
  | refl => exact absurd rfl hne
  | head hI hs ht => rw [h] at hs; cases hs; exact ht
theorem loneR_ne {b : Frame} {a a' : Act} {k k' : List Item} {cs : List Frame} {w w' : World} (h : k ≠ k') : lone (b.atR a k) cs w ≠ lone (b.atR a' k') cs w' := by
  intro he
  have := congrArg (fun m : Machine => (m.gs[0]?).map (fun g => g.frame.todo)) he
  simp [lone, Frame.atR] at this
  exact h this
theorem loneR_ne_ret {b : Frame} {a a' : Act} {k todo : List Item} {cs : List Frame} {w w' : World} : lone (b.atR a k) cs w ≠ lone { b.atR a' todo with mode := .returning } cs w' := by
  intro he
  have := congrArg (fun m : Machine => (m.gs[0]?).map (fun g => match g.frame.mode with | .run => true | _ => false)) he
  simp [lone, Frame.atR] at this
theorem ne_len {α : Type} {k k' : List α} (h : k'.length < k.length) : k ≠ k' := fun e => by rw [e] at h; omega
theorem ARun.again {P : Program} {n : Nat} {c : Code} {tm tm1 tm2 : Tm} {h h1 h2 : List AObj} {e : AExit} (a : ARun P n c tm h .normal tm1 h1) (b : ARun P n (.loop c) tm1 h1 e tm2 h2) :
    ARun P n (.loop c) tm h e tm2 h2 := by
  intro hn
  obtain ⟨a1, a2⟩ := a hn
  obtain ⟨b1, b2⟩ := b a1
  refine ⟨b1, fun r dl σ w ac hq hf hr ht bb k cs hro hfn hroom => ?_⟩
  obtain ⟨x, a', w', ⟨rfl, σ', q1, q2, ds, hds, q3⟩, harr⟩ := a2 r dl σ w ac hq.loop hf hr ht bb (.inLoop c :: k) cs hro hfn hroom
  obtain ⟨x2, a'', w'', ⟨rfl, σ'', r1, r2, r3⟩, harr2⟩ := b2 r _ σ' w' a' hq q1.full q1.rel q3 bb k cs hro hfn hroom
  refine ⟨e.out, a'', w'', ⟨rfl, σ'', q1.trans r1, q2.trans r2, .join hds q1.frm.size q1.rel r1 r3⟩, ?_⟩
  have s1 : StepsIn (Machine.fenced P (wideR r)) P (lone (bb.atR ac (.code (.loop c) :: k)) cs w) (lone (bb.atR a' (.code c :: .inLoop c :: k)) cs w') :=
    .head (fenced_calm hfn hroom rfl) stepR_loop (StepsIn.trans harr (.one (fenced_calm hfn hroom rfl) stepR_inLoop))
  cases e with
  | normal => exact s1.trans (stepsIn_next stepR_loop harr2 (loneR_ne (ne_len (by simp))))
  | exit id => exact ⟨fun k' hk => s1.trans (stepsIn_next stepR_loop (harr2.1 k' hk) (loneR_ne (ne_len (by have := exitTo_length hk; simp; omega)))),
      fun hr' hk => let ⟨k₁, h1, h2⟩ := harr2.2 hr' hk; ⟨k₁, h1, s1.trans (stepsIn_next stepR_loop h2 (loneR_ne (by simp)))⟩⟩
  | ret => exact ⟨fun hr' => let ⟨todo, hs⟩ := harr2.1 hr'; ⟨todo, s1.trans (stepsIn_next stepR_loop hs loneR_ne_ret)⟩,
      fun hr' => let ⟨k₁, hs⟩ := harr2.2 hr'; ⟨k₁, s1.trans (stepsIn_next stepR_loop hs (loneR_ne (by simp)))⟩⟩
theorem noOut {P : Program} {n : Nat} {e : AExit} {σ : Sg} {h h' : List AObj} {w : World} {tm' : Tm} : ¬ LetsOut (fun x a' w' => x = e.out ∧ ∃ σ', Went P σ h w σ' h' w' ∧ Keeps n σ σ' ∧ TRW dl w σ' tm' a' w') := by
  rintro ⟨a, w, h, -⟩
  cases e <;> simp [AExit.out] at h
theorem wpIn_scope_straight {F : Fence} {n : Nat} {P : Program} {a : Act} {w : World} {Q : Exit → Act → World → Prop} {c : Code} (h : c.wpIn F n P (Exit.noGoto Q) a w) : (Code.scope c).wpIn F n P Q a w := by
  intro b k cs hro hb hr
  have s1 : StepsIn (Machine.fenced P F) P (lone (b.atR a (.code (.scope c) :: k)) cs w) (lone (b.atR a (.code c :: .inScope c :: k)) cs w) :=
    .one (fenced_calm hb hr rfl) (step_lone_go (by simp [stepG, stepG.exec, Frame.atR]))
  obtain ⟨e, a₁, w₁, hq, harr⟩ := h b (.inScope c :: k) cs hro hb hr
  cases e with
  | normal => exact ⟨.normal, a₁, w₁, hq, s1.trans (StepsIn.trans harr (.one (fenced_calm hb hr rfl) (step_lone_go (by simp [stepG, stepG.exec, Frame.atR]))))⟩
  | exit id =>
    have hx : exitTo id (.inScope c :: k) = exitTo id k := by simp [exitTo]
    exact ⟨.exit id, a₁, w₁, hq, fun k' hk => s1.trans (harr.1 k' (by rw [hx]; exact hk)), fun hr' hk => let ⟨k₁, h1, h2⟩ := harr.2 hr' (by rw [hx]; exact hk); ⟨k₁, h1, s1.trans h2⟩⟩
  | goto l => exact hq.elim
  | ret => exact ⟨_, a₁, w₁, hq, .of_steps s1 harr⟩
  | panic ch => exact ⟨_, a₁, w₁, hq, .of_steps s1 harr⟩
  | outgrown => exact ⟨_, a₁, w₁, hq, .of_steps s1 harr⟩

/-- a loop: a round that leaves -/
theorem ARun.leave {P : Program} {n : Nat} {c : Code} {tm tm1 : Tm} {h h1 : List AObj} {e : AExit} (a : ARun P n c tm h e tm1 h1) (hne : e ≠ .normal) : ARun P n (.loop c) tm h e tm1 h1 := by
  intro hn
  obtain ⟨a1, a2⟩ := a hn
  refine ⟨a1, fun r dl σ w ac hq hf hr ht => wpIn_loop_once (wpIn_mono (a2 r dl σ w ac hq.loop hf hr ht) ?_)⟩
  rintro x a' w' ⟨rfl, q⟩
  cases e with
  | normal => exact absurd rfl hne
  | exit id => exact ⟨rfl, q⟩
  | ret => exact ⟨rfl, q⟩

theorem trivial_wp {P : Program} {n : Nat} {c : Code} {e : AExit} {tm : Tm} {h : List AObj} (hwp : ∀ {Q : Exit → Act → World → Prop} {a : Act} {w : World}, Q e.out a w → ∀ r, c.wpIn (wideR r) 0 P Q a w) : ARun P n c tm h e tm h :=
  fun hn => ⟨hn, fun r dl σ w a hq hf hr ht => hwp ⟨rfl, σ, Went.refl hr hf, Keeps.refl _ _, .one ht⟩ r⟩
theorem endA_sound {P : Program} {n : Nat} {c : Code} {e e' : AExit} {tm tm' : Tm} {h h' : List AObj} {orc orc' : List Orc} {cs : List Prop} (hs : endA P e tm h orc = some (e', tm', h', orc', cs))
    (hwp : ∀ {Q : Exit → Act → World → Prop} {a : Act} {w : World}, Q e.out a w → ∀ r, c.wpIn (wideR r) 0 P Q a w) : ARun P n c tm h e' tm' h' := by
  unfold endA at hs
  split at hs <;> simp at hs
  rename_i hp
  obtain ⟨rfl, rfl, rfl, rfl, rfl⟩ := hs
  exact ARun.pop hp (trivial_wp hwp)
theorem regA_sound {P : Program} {n id : Nat} {ops : Array Oper} {draw : Bool} {e : AExit} {tm tm' : Tm} {h h' : List AObj} {orc orc' : List Orc} {cs : List Prop} (hs : regA P ops draw tm h orc = some (e, tm', h', orc', cs)) (hc : All cs) :
    ARun P n (.region id ops draw) tm h e tm' h' := by
  intro hn
  refine ⟨regA_length hs hn, ?_⟩
  unfold regA at hs
  split at hs
  · rename_i hnd
    split at hs <;> simp at hs
    rename_i tm1 h1 orc1 cs1 hseq
    obtain ⟨rfl, rfl, rfl, rfl, rfl⟩ := hs
    intro ro dl σ w a hq hf hr ht
    exact wpIn_region_list (wpList_in ro noOut (noDef_out hnd) (seq_sound hseq hc hf hr ht fun σ' w' a' q1 q2 q3 => ⟨rfl, σ', q1, q2.mono hn, .one q3⟩))
  · rename_i hnd
    split at hs <;> try simp at hs
    rename_i R tm1 h1 orc1 cs1 hd
    split at hs <;> simp at hs
    rename_i hok
    obtain ⟨rfl, rfl, rfl, rfl, rfl⟩ := hs
    intro ro dl σ w a hq hf hr ht
    exact draw_sound hc.1 hd hc.2 hok hf hr ht (fun σ' w' a' q1 q2 q3 => ⟨rfl, σ', q1, q2.mono hn, .one q3⟩) ro noOut hnd
  · simp at hs
theorem loopO_sound {P : Program} {n : Nat} {c : Code} {e : AExit} {tm tm' : Tm} {h h' : List AObj} {orc orc' : List Orc} {cs : List Prop} (hs : loopO P n c tm h orc = some (e, tm', h', orc', cs)) (hc : All cs) :
    ARun P n c tm h e tm' h' := by
    intro hn
    refine ⟨loopO_length hs, ?_⟩
    intro ro dl σ w a hq hf hr ht
    unfold loopO at hs
    split at hs <;> try simp at hs
    rename_i keep κ e1 tm1 h1' orc1
    split at hs <;> try simp at hs
    rename_i hκ hinv
    obtain ⟨⟨h1, h2, h3⟩, rfl, rfl, rfl, rfl, rfl⟩ := hs
    have hnd := nodupB_spec h1
    have hlt := invH_lt hinv
    have hpin := pinned_get h2
    have hrκ := hr.via (fun b hb => (hf b).2 (hlt b hb)) hnd hinv
    obtain ⟨hlen, -⟩ := invH_get (σ := σ) hinv
    have hfκ : Full (σ.via _) hκ := fun b => by rw [hlen]; exact Iff.rfl
    have htκ : TR dl (σ.via κ) (renT κ (keepT keep 0 tm)) a := ⟨ht.defers, by rw [renT_length, keepT_length]; exact ht.size, fun t y hy => by
      obtain ⟨x, hx, hxy⟩ := renT_get hy
      obtain ⟨g1, g2⟩ := ht.get t x (keepT_get hx)
      obtain ⟨i1, i2⟩ := inv_den (σ := σ) hxy
      exact ⟨by rw [i1]; exact g1, i2 g2⟩⟩
    have hnκ : n ≤ hκ.length := by
      rw [hlen]
      rcases Nat.lt_or_ge κ.length n with hlt' | hge
      · have := hpin (n - 1) (by omega)
        have := (List.getElem?_eq_some_iff.1 this).1
        omega
      · exact hge
    refine wpIn_mono ((hc.1 hnκ).2 ro dl (σ.via κ) w a hq hfκ hrκ htκ) ?_
    rintro x a' w' ⟨rfl, σ', q1, q2, q3⟩
    refine ⟨rfl, σ', q1.pre (fun r hi => ?_) (fun r hi => ?_), ?_, q3⟩
    · obtain ⟨b', o', k1, k2, k3, k6, k4⟩ := img_via (fun b hb => (hf b).2 (hlt b hb)) hinv hi
      exact ⟨b', o', (hf b').2 (hlt b' k1), k2, k3, k6, k4⟩
    · obtain ⟨b', o', k1, k2, k3, k6, k5, k4⟩ := wimg_via (fun b hb => (hf b).2 (hlt b hb)) hinv hi
      exact ⟨b', o', (hf b').2 (hlt b' k1), k2, k3, k6, k5, k4⟩
    · intro b hb
      rw [q2 b hb]
      simp [Sg.via, hpin b hb]
theorem iterA_sound {P : Program} {n : Nat} {c : Code} {f : Tm → List AObj → List Orc → RunR} (hf : ∀ {tm h orc e tm' h' orc' cs}, f tm h orc = some (e, tm', h', orc', cs) → All cs → ARun P n c tm h e tm' h') :
    ∀ {k : Nat} {e' : AExit} {tm tm' : Tm} {h h' : List AObj} {orc orc' : List Orc} {cs : List Prop}, iterA P f (loopO P n (.loop c)) k tm h orc = some (e', tm', h', orc', cs) → All cs → ARun P n (.loop c) tm h e' tm' h'
  | 0, e', tm, tm', h, h', orc, orc', cs, hs, hc => by
    simp only [iterA] at hs
    split at hs <;> try simp at hs
    rename_i hp
    exact ARun.pop hp (loopO_sound hs hc)
  | k + 1, e', tm, tm', h, h', orc, orc', cs, hs, hc => by
    simp only [iterA] at hs
    split at hs
    · rename_i ha
      split at hs <;> simp at hs
      rename_i hb
      obtain ⟨rfl, rfl, rfl, rfl, rfl⟩ := hs
      rw [All_append] at hc
      exact (hf ha hc.1).again (iterA_sound hf hb hc.2)
    · rename_i hnn
      exact (hf hs hc).leave (fun he => by subst he; exact hnn _ _ _ _ hs)
theorem run_sound {P : Program} {n : Nat} : ∀ {c : Code} {tm tm' : Tm} {h h' : List AObj} {orc orc' : List Orc} {e : AExit} {cs : List Prop},
    runA P n c tm h orc = some (e, tm', h', orc', cs) → All cs → ARun P n c tm h e tm' h' := by
  intro c
  induction c with
  | skip => intro tm tm' h h' orc orc' e cs hs hc; exact endA_sound hs (fun q _ => wpIn_skip q)
  | label l => intro tm tm' h h' orc orc' e cs hs hc; exact endA_sound hs (fun q _ => wpIn_label q)
  | exit id => intro tm tm' h h' orc orc' e cs hs hc; exact endA_sound hs (fun q _ => wpIn_exit q)
  | ret => intro tm tm' h h' orc orc' e cs hs hc; exact endA_sound hs (fun q _ => wpIn_ret q)
  | region id ops draw =>
    intro tm tm' h h' orc orc' e cs hs hc
    simp only [runA] at hs
    split at hs <;> try simp at hs
    rename_i hp
    exact ARun.pop hp (regA_sound hs hc)
  | seq a b iha ihb =>
    intro tm tm' h h' orc orc' e cs hs hc hn
    refine ⟨runA_length hs hn, ?_⟩
    simp only [runA] at hs
    intro ro dl σ w ac hq hf hr ht
    split at hs
    · rename_i tm1 h1 orc1 cs1 ha
      split at hs <;> simp at hs
      rename_i e2 tm2 h2 orc2 cs2 hb
      obtain ⟨rfl, rfl, rfl, rfl, rfl⟩ := hs
      rw [All_append] at hc
      obtain ⟨k1, k2⟩ := iha ha hc.1 hn
      refine wpIn_seq (wpIn_mono (k2 ro dl σ w ac hq.seq1 hf hr ht) ?_)
      rintro x a' w' ⟨rfl, σ', q1, q2, ds, hds, q3⟩
      refine wpIn_mono ((ihb hb hc.2 k1).2 ro _ σ' w' a' hq.seq2 q1.full q1.rel q3) ?_
      rintro x a'' w'' ⟨rfl, σ'', r1, r2, r3⟩
      exact ⟨rfl, σ'', q1.trans r1, q2.trans r2, .join hds q1.frm.size q1.rel r1 r3⟩
    · rename_i r hnn
      obtain ⟨k1, k2⟩ := iha hs hc hn
      refine wpIn_seq (wpIn_mono (k2 ro dl σ w ac hq.seq1 hf hr ht) ?_)
      rintro x a' w' ⟨rfl, σ', q1, q2, q3⟩
      cases e with
      | normal => exact (hnn _ _ _ _ hs).elim
      | exit id => exact ⟨rfl, σ', q1, q2, q3⟩
      | ret => exact ⟨rfl, σ', q1, q2, q3⟩
  | cond c x y ihx ihy =>
    intro tm tm' h h' orc orc' e cs hs hc hn
    refine ⟨runA_length hs hn, ?_⟩
    intro ro dl σ w a hq hf hr ht
    cases c with
    | tmp d =>
      simp only [runA] at hs
      split at hs
      · rename_i tm1 orc1 cs1 hd
        split at hs <;> simp at hs
        rename_i hx
        obtain ⟨rfl, rfl, rfl, rfl, rfl⟩ := hs
        rw [All_append] at hc
        obtain ⟨k1, k2⟩ := decideT_sound hd hc.1 ht
        exact wpIn_cond_true (by simp [Act.eval, k2]) ((ihx hx hc.2 hn).2 ro dl σ w a hq.cond1 hf hr k1)
      · rename_i tm1 orc1 cs1 hd
        split at hs <;> simp at hs
        rename_i hy
        obtain ⟨rfl, rfl, rfl, rfl, rfl⟩ := hs
        rw [All_append] at hc
        obtain ⟨k1, k2⟩ := decideT_sound hd hc.1 ht
        exact wpIn_cond_false (by simp [Act.eval, k2]) ((ihy hy hc.2 hn).2 ro dl σ w a hq.cond2 hf hr k1)
      · simp at hs
    | _ => simp [runA] at hs
  | block id c ih =>
    intro tm tm' h h' orc orc' e cs hs hc hn
    refine ⟨runA_length hs hn, ?_⟩
    intro ro dl σ w a hq hf hr ht
    simp only [runA] at hs
    split at hs
    · rename_i id' tm1 h1 orc1 cs1 hcc
      split at hs <;> simp at hs <;> obtain ⟨rfl, rfl, rfl, rfl, rfl⟩ := hs
      · rename_i hid; subst hid
        refine wpIn_block (wpIn_mono ((ih hcc hc hn).2 ro dl σ w a hq.block hf hr ht) ?_)
        rintro x a' w' ⟨rfl, q⟩
        show Exit.inBlock _ _ (Exit.exit _) a' w'
        simp only [Exit.inBlock, if_true]
        exact ⟨rfl, q⟩
      · rename_i hid
        refine wpIn_block (wpIn_mono ((ih hcc hc hn).2 ro dl σ w a hq.block hf hr ht) ?_)
        rintro x a' w' ⟨rfl, q⟩
        show Exit.inBlock _ _ (Exit.exit _) a' w'
        simp only [Exit.inBlock, if_neg hid]
        exact ⟨rfl, q⟩
    · rename_i r hnn
      refine wpIn_block (wpIn_mono ((ih hs hc hn).2 ro dl σ w a hq.block hf hr ht) ?_)
      rintro x a' w' ⟨rfl, q⟩
      cases e with
      | normal => exact ⟨rfl, q⟩
      | ret => exact ⟨rfl, q⟩
      | exit id' => exact (hnn _ _ _ _ _ hs).elim
  | scope c ih =>
    intro tm tm' h h' orc orc' e cs hs hc hn
    refine ⟨runA_length hs hn, ?_⟩
    intro ro dl σ w a hq hf hr ht
    simp only [runA] at hs
    refine wpIn_scope_straight (wpIn_mono ((ih hs hc hn).2 ro dl σ w a hq.scope hf hr ht) ?_)
    rintro x a' w' ⟨rfl, q⟩
    cases e with
    | normal => exact ⟨rfl, q⟩
    | ret => exact ⟨rfl, q⟩
    | exit id' => exact ⟨rfl, q⟩
  | loop c ih =>
    intro tm tm' h h' orc orc' e cs hs hc
    simp only [runA] at hs
    split at hs <;> try simp at hs
    · rename_i hp
      exact ARun.pop hp (iterA_sound (fun h1 h2 => ih h1 h2) hs hc)
    · rename_i hp
      exact ARun.pop hp (loopO_sound hs hc)
  | rangeFunc g ps x y ihx ihy =>
    intro tm tm' h h' orc orc' e cs hs hc
    simp only [runA] at hs
    split at hs <;> try simp at hs
    rename_i hp
    exact ARun.pop hp (loopO_sound hs hc)
  | _ => intro tm tm' h h' orc orc' e cs hs hc; simp [runA] at hs

/-- the names that a run's end is told by, turned into those that are promised -/
def resA (P : Program) (tm : Tm) (h : List AObj) : List ResultVar → Option (List AV × List Prop)
  | [] => some ([], [])
  | .tmp t :: r => match evalA tm (.tmp t), resA P tm h r with
    | some v, some (vs, cs) => some (v :: vs, cs)
    | _, _ => none
  | .cell a t :: r => match evalA tm (.tmp a), aggT P t, sizeT P t, resA P tm h r with
    | some (.ptr b off), some true, some n, some (vs, cs) => match h[b]? with
      | some o => match o.live && o.row, o.getN off n with
        | true, some (l, ds) => some (.agg l :: vs, ds ++ cs)
        | _, _ => none
      | none => none
    | some (.ptr b off), some false, some _, some (vs, cs) => match h[b]? with
      | some o => match o.get off with
        | some (x, ds) => some (x :: vs, ds ++ cs)
        | none => none
      | none => none
    | _, _, _, _ => none
def resV : List AV → AV
  | [x] => x
  | l => .tup l
end Go.Abs
