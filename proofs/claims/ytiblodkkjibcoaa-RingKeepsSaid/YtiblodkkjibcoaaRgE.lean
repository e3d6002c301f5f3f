import Derived.Test.YtiblodkkjibcoaaRgD
set_option linter.all false
set_option maxRecDepth 100000
/- Drop, Keep, and what is nil. -/
namespace Go.Proofs.Ytiblodkkjibcoaa.Ring
open Go.Abs Go.RowKit Go.Shelf Go.Proofs
abbrev R3 := List Int × Int × Int
def pop3 (s : R3) : R3 := (popL s.1 s.2.1 s.2.2, popA s.1 s.2.1 s.2.2, popN s.2.2)
def push3 (k x : Int) (s : R3) : R3 := (psL s.1 s.2.1 s.2.2 k x, psA s.1 s.2.1 s.2.2 k, psN s.2.2 k)
def popM : Nat → R3 → R3
  | 0, s => s
  | m + 1, s => popM m (pop3 s)
def ok3 (k : Int) (s : R3) : Prop := okR s.1 s.2.1 s.2.2 k = true
def it3 (s : R3) : List Int := itR s.1 s.2.1 s.2.2
theorem pop3_ok {k : Int} {s : R3} (h : ok3 k s) : ok3 k (pop3 s) := pop_ok h
theorem pop3_it {k : Int} {s : R3} (h : ok3 k s) : it3 (pop3 s) = (it3 s).tail := pop_it h
theorem popM_ok {k : Int} : ∀ {m : Nat} {s : R3}, ok3 k s → ok3 k (popM m s)
  | 0, s, h => h
  | m + 1, s, h => popM_ok (m := m) (pop3_ok h)
theorem popM_it {k : Int} : ∀ {m : Nat} {s : R3}, ok3 k s → it3 (popM m s) = (it3 s).drop m
  | 0, s, h => by simp [popM]
  | m + 1, s, h => by
    rw [popM, popM_it (m := m) (pop3_ok h), pop3_it h, List.drop_tail]
theorem it3_len {k : Int} {s : R3} (h : ok3 k s) : ((it3 s).length : Int) = s.2.2 := by
  have := okR_iff.1 h
  unfold it3; rw [itR_len]; omega
def dk (m n : Int) : Int := imax 0 (imin m n)
def dpL (l : List Int) (a n m : Int) : List Int := (popM (dk m n).toNat (l, a, n)).1
def dpA (l : List Int) (a n m : Int) : Int := (popM (dk m n).toNat (l, a, n)).2.1
def dpN (l : List Int) (a n m : Int) : Int := (popM (dk m n).toNat (l, a, n)).2.2
theorem l15 (k m : Int) (hm : 0 ≤ m ∧ m ≤ 65536) : ∀ (j i : Nat) (s : R3), (i : Int) + j = m → ok3 k s → L15L k (j + 1) m (i : Int) s.2.1 s.2.2 s.1 = some (m, (popM j s).2.1, (popM j s).2.2, (popM j s).1)
  | 0, i, s, h, ho => by
    have e0 : ilt (i : Int) m = false := by rw [ilt_d]; exact decide_eq_false (by omega)
    rw [L15LK]; unfold L15B; rw [e0]; rfl
  | j + 1, i, s, h, ho => by
    have e0 : ilt (i : Int) m = true := by rw [ilt_d]; exact decide_eq_true (by omega)
    have e1 : iadd .i64 (i : Int) 1 = ((i + 1 : Nat) : Int) := by unfold iadd; rw [w_i64_in (by omega)]; omega
    have ho' : okR s.1 s.2.1 s.2.2 k = true := ho
    rw [L15LK]; unfold L15B; rw [e0, ho', e1]
    exact l15 k m hm j (i + 1) (pop3 s) (by omega) (pop3_ok ho)
theorem dk_in {l : List Int} {a n k m : Int} (h : okR l a n k = true) : 0 ≤ dk m n ∧ dk m n ≤ n ∧ n ≤ 65536 := by
  have := okR_iff.1 h
  unfold dk imax imin; omega
theorem g15 (l : List Int) (a n k m : Int) (h : okR l a n k = true) : ACalls Try.prog 15 [AV.ptr 0 0, AV.v (.int .i64 m)] [AObj.cells 0 true [AV.sw 1 1, AV.v (.int .i64 a), AV.v (.int .i64 n), AV.v (.int .i64 k)], AObj.ints 0 true .i64 l] (AV.v (.int .i64 (dk m n))) [(0, AObj.cells 0 true [AV.sw 1 1, AV.v (.int .i64 (dpA l a n m)), AV.v (.int .i64 (dpN l a n m)), AV.v (.int .i64 k)]), (1, AObj.ints 0 true .i64 (dpL l a n m))] [] := by
  have hd := dk_in (m := m) h
  exact f15 l a n k m _ _ _ _ _ (l15 k (dk m n) ⟨hd.1, by omega⟩ (dk m n).toNat 0 (l, a, n) (by omega) h)
theorem dp_ok {l : List Int} {a n k : Int} (m : Int) (h : okR l a n k = true) : okR (dpL l a n m) (dpA l a n m) (dpN l a n m) k = true := popM_ok (s := (l, a, n)) h
theorem dp_it {l : List Int} {a n k : Int} (m : Int) (h : okR l a n k = true) : itR (dpL l a n m) (dpA l a n m) (dpN l a n m) = (itR l a n).drop (dk m n).toNat := popM_it (s := (l, a, n)) (k := k) h
/-- Keep's round -/
def kp3 (k : Int) (s : R3) : R3 := bif ieq (irem (aV s.1 s.2.1 s.2.2 0) 2) 0 then push3 k (aV s.1 s.2.1 s.2.2 0) (pop3 s) else pop3 s
def kpM (k : Int) : Nat → R3 → R3
  | 0, s => s
  | m + 1, s => kpM k m (kp3 k s)
def evB (x : Int) : Bool := ieq (irem x 2) 0
theorem kp3_ok {k : Int} {s : R3} (h : ok3 k s) : ok3 k (kp3 k s) := by
  unfold kp3
  cases ieq (irem (aV s.1 s.2.1 s.2.2 0) 2) 0 with
  | true => exact ps_ok _ (pop3_ok h)
  | false => exact pop3_ok h
theorem kp3_it {k : Int} {s : R3} {x : Int} {r : List Int} (h : ok3 k s) (hx : it3 s = x :: r) : it3 (kp3 k s) = r ++ (bif evB x then [x] else []) := by
  have hl := it3_len h
  have ho := okR_iff.1 h
  rw [hx, List.length_cons] at hl
  have e0 : aV s.1 s.2.1 s.2.2 0 = x := by
    rw [aV_it ⟨by omega, by omega⟩]
    show (it3 s).getD 0 0 = x
    rw [hx]; rfl
  have e1 := pop3_it h
  rw [hx, List.tail_cons] at e1
  have hpn : (pop3 s).2.2 ≠ k := by
    show popN s.2.2 ≠ k
    unfold popN; split <;> omega
  unfold kp3
  rw [e0]
  show it3 (bif evB x then push3 k x (pop3 s) else pop3 s) = _
  cases evB x with
  | true =>
    have := ps_it x (pop3_ok h)
    rw [if_neg hpn] at this
    show it3 (push3 k x (pop3 s)) = r ++ [x]
    rw [← e1]; exact this
  | false => show it3 (pop3 s) = r ++ []; rw [e1, List.append_nil]
theorem kpM_ok {k : Int} : ∀ {m : Nat} {s : R3}, ok3 k s → ok3 k (kpM k m s)
  | 0, s, h => h
  | m + 1, s, h => kpM_ok (m := m) (kp3_ok h)
theorem kpM_it {k : Int} : ∀ (r y : List Int) {s : R3}, ok3 k s → it3 s = r ++ y → it3 (kpM k r.length s) = y ++ r.filter evB
  | [], y, s, h, e => by simp [kpM, e]
  | x :: r, y, s, h, e => by
    rw [List.length_cons, kpM]
    have e1 := kp3_it (r := r ++ y) h (by rw [e]; rfl)
    rw [List.append_assoc] at e1
    rw [kpM_it r _ (kp3_ok h) e1, List.filter_cons]
    cases evB x <;> simp
def kpL (l : List Int) (a n k : Int) : List Int := (kpM k n.toNat (l, a, n)).1
def kpA (l : List Int) (a n k : Int) : Int := (kpM k n.toNat (l, a, n)).2.1
def kpN (l : List Int) (a n k : Int) : Int := (kpM k n.toNat (l, a, n)).2.2
theorem l17 (k m : Int) (hm : 0 ≤ m ∧ m ≤ 65536) : ∀ (j i : Nat) (s : R3), (i : Int) + j = m → ok3 k s → L17L m k (j + 1) (i : Int) s.2.1 s.2.2 s.1 = some ((kpM k j s).2.1, (kpM k j s).2.2, (kpM k j s).1)
  | 0, i, s, h, ho => by
    have e0 : ilt (i : Int) m = false := by rw [ilt_d]; exact decide_eq_false (by omega)
    rw [L17LK]; unfold L17B; rw [e0]; rfl
  | j + 1, i, s, h, ho => by
    have e0 : ilt (i : Int) m = true := by rw [ilt_d]; exact decide_eq_true (by omega)
    have e1 : iadd .i64 (i : Int) 1 = ((i + 1 : Nat) : Int) := by unfold iadd; rw [w_i64_in (by omega)]; omega
    have ho' : okR s.1 s.2.1 s.2.2 k = true := ho
    have ho2 : okR (popL s.1 s.2.1 s.2.2) (popA s.1 s.2.1 s.2.2) (popN s.2.2) k = true := pop_ok ho
    have ih := l17 k m hm j (i + 1) (kp3 k s) (by omega) (kp3_ok ho)
    rw [L17LK]; unfold L17B; rw [e0, ho', ho2, e1]
    unfold kpM
    unfold kp3 at ih ⊢
    cases hc : ieq (irem (aV s.1 s.2.1 s.2.2 0) 2) 0 with
    | true => rw [hc] at ih; exact ih
    | false => rw [hc] at ih; exact ih
theorem g17 (l : List Int) (a n k : Int) (h : okR l a n k = true) : ACalls Try.prog 17 [AV.ptr 0 0, AV.fn (Fn.func 18) []] [AObj.cells 0 true [AV.sw 1 1, AV.v (.int .i64 a), AV.v (.int .i64 n), AV.v (.int .i64 k)], AObj.ints 0 true .i64 l] (AV.v (.int .i64 (isub .i64 n (kpN l a n k)))) [(0, AObj.cells 0 true [AV.sw 2 1, AV.v (.int .i64 (kpA l a n k)), AV.v (.int .i64 (kpN l a n k)), AV.v (.int .i64 k)]), (1, AObj.dead)] [AObj.ints 0 true .i64 (kpL l a n k)] := by
  have ho := okR_iff.1 h
  exact f17 l a n k _ _ _ _ (l17 k n ⟨by omega, by omega⟩ n.toNat 0 (l, a, n) (by omega) h)
theorem kp_ok {l : List Int} {a n k : Int} (h : okR l a n k = true) : okR (kpL l a n k) (kpA l a n k) (kpN l a n k) k = true := kpM_ok (s := (l, a, n)) h
theorem kp_it {l : List Int} {a n k : Int} (h : okR l a n k = true) : itR (kpL l a n k) (kpA l a n k) (kpN l a n k) = (itR l a n).filter evB := by
  have := kpM_it (k := k) (itR l a n) [] (s := (l, a, n)) h (by simp [it3])
  rw [itR_len, List.nil_append] at this
  exact this
end Go.Proofs.Ytiblodkkjibcoaa.Ring
