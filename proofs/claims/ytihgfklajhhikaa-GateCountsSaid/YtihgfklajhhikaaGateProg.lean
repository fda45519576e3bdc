/- gate: counts and progress of a run, in plain terms. -/
import Derived.Test.YtihgfklajhhikaaGatePl2
set_option linter.unusedVariables false
set_option linter.unusedSimpArgs false
namespace Go.Lf
/-! Counts. -/
/-- How many sections of bucket b are entered. -/
def cntB (n b : Nat) : List GA → Int
  | [] => 0
  | x :: l => (if x.p.isIn = true ∧ x.val % n = b then 1 else 0) + cntB n b l
theorem cntB_snoc (n b : Nat) (l : List GA) (x : GA) : cntB n b (l ++ [x]) = cntB n b l + (if x.p.isIn = true ∧ x.val % n = b then 1 else 0) := by
  induction l with
  | nil => simp [cntB]
  | cons y l ih => simp only [List.cons_append, cntB, ih]; omega
theorem cntB_take {n b k : Nat} {l : List GA} {x : GA} (hx : l[k]? = some x) : cntB n b (l.take (k + 1)) = cntB n b (l.take k) + (if x.p.isIn = true ∧ x.val % n = b then 1 else 0) := by
  rw [List.take_add_one, hx]
  exact cntB_snoc n b _ x
theorem cntB_bound (n b : Nat) (l : List GA) : 0 ≤ cntB n b l ∧ cntB n b l ≤ l.length := by
  induction l with
  | nil => simp [cntB]
  | cons y l ih => simp only [cntB, List.length_cons]; split <;> omega
theorem cntB_sum {n b : Nat} : ∀ {l : List GA}, (∀ x ∈ l, ∀ c, x.p = .inn c → c = 4 * (x.val % n) + 1 ∨ c = 4 * (x.val % n) + 2) → cntB n b l = cntIn (4 * b + 1) l + cntIn (4 * b + 2) l := by
  intro l
  induction l with
  | nil => intro _; rfl
  | cons x l ih =>
    intro h
    have h1 := ih (fun y hy => h y (List.mem_cons_of_mem _ hy))
    have h2 := h x (List.mem_cons_self ..)
    simp only [cntB, cntIn, h1]
    cases hp : x.p with
    | inn c =>
      have h3 := h2 c hp
      simp only [GP.isIn, GP.isAt, beq_iff_eq, true_and]
      by_cases e1 : c = 4 * b + 1
      · have e2 : ¬ c = 4 * b + 2 := by omega
        have e3 : x.val % n = b := by omega
        rw [if_pos e1, if_neg e2, if_pos e3]; omega
      · by_cases e2 : c = 4 * b + 2
        · have e3 : x.val % n = b := by omega
          rw [if_neg e1, if_pos e2, if_pos e3]; omega
        · have e3 : ¬ x.val % n = b := by omega
          rw [if_neg e1, if_neg e2, if_neg e3]; omega
    | idle => simp [GP.isIn, GP.isAt]
    | ent c => simp [GP.isIn, GP.isAt]
    | wt a b c => simp [GP.isIn, GP.isAt]

/-! Progress. -/
/-- How many steps of its own a thread has ahead. -/
def GP.rem : GP → Nat
  | .idle => 0
  | .ent none => 3
  | .ent (some _) => 2
  | .inn _ => 1
  | .wt st _ left => 6 * left.length - st
def sumR : List GA → Nat
  | [] => 0
  | x :: l => x.p.rem + sumR l
section
variable {n o m : Nat} {q : Bool} {ws : List Int} {th : List GA} {t : Nat} {x x' : GA} {K K' : Int} {s : GS}
theorem sumR_set (hx : th[t]? = some x) : sumR (th.set t x') + x.p.rem = sumR th + x'.p.rem := by
  induction th generalizing t with
  | nil => simp at hx
  | cons y l ih =>
    cases t with
    | zero =>
      simp only [List.getElem?_cons_zero, Option.some.injEq] at hx
      subst hx
      simp only [List.set_cons_zero, sumR]
      omega
    | succ t =>
      have := ih (t := t) (by simpa using hx)
      simp only [List.set_cons_succ, sumR]
      omega
theorem sumR_le (hx : th[t]? = some x) : x.p.rem ≤ sumR th := by
  induction th generalizing t with
  | nil => simp at hx
  | cons y l ih =>
    cases t with
    | zero =>
      simp only [List.getElem?_cons_zero, Option.some.injEq] at hx
      subst hx
      simp only [sumR]; omega
    | succ t =>
      have := ih (t := t) (by simpa using hx)
      simp only [sumR]; omega
theorem sumR_bound {m : Nat} (h : ∀ x ∈ th, x.p.rem ≤ m) : sumR th ≤ m * th.length := by
  induction th with
  | nil => simp [sumR]
  | cons y l ih =>
    have h1 := ih (fun x hx => h x (List.mem_cons_of_mem _ hx))
    have h2 := h y (List.mem_cons_self ..)
    simp only [sumR, List.length_cons, Nat.mul_succ]; omega
theorem GInv.rem_le (h : GInv n ⟨ws, th⟩ K) (hx : th[t]? = some x) : x.p.rem ≤ 6 * n := by
  have n0 := h.n0
  cases hp : x.p with
  | idle => simp [GP.rem]
  | ent c => cases c <;> simp only [GP.rem] <;> omega
  | inn c => simp only [GP.rem]; omega
  | wt st side left =>
    obtain ⟨h1, h2, h3, h4, h5, h6, -⟩ := (h.thr t x hx).wt _ _ _ hp
    simp only [GP.rem]; omega
theorem GInv.rem_idle (h : GInv n ⟨ws, th⟩ K) (hx : th[t]? = some x) (h0 : x.p.rem = 0) : x.p = .idle := by
  cases hp : x.p with
  | idle => rfl
  | ent c => rw [hp] at h0; cases c <;> simp [GP.rem] at h0
  | inn c => rw [hp] at h0; simp [GP.rem] at h0
  | wt st side left =>
    obtain ⟨h1, h2, h3, h4, h5, h6, -⟩ := (h.thr t x hx).wt _ _ _ hp
    rw [hp] at h0
    simp only [GP.rem] at h0
    have : 1 ≤ left.length := List.length_pos_iff.2 h1
    omega
/-- A wait whose latch is free and whose counts are zero goes on. -/
theorem GInv.wait_go (h : GInv n ⟨ws, th⟩ K) (hx : th[t]? = some x) {st side : Nat} {left : List Nat} (hp : x.p = .wt st side left) (h0 : st = 0 → ∀ b ∈ left, wat ws (4 * b + 3) = 0) (hc : ∀ b ∈ left, wat ws (4 * b + 1) = 0 ∧ wat ws (4 * b + 2) = 0) :
    ∃ ws' p', GS.wait ⟨ws, th⟩ t x = ⟨ws', th.set t { x with p := p' }⟩ ∧ p'.rem + 1 = x.p.rem ∧ (p' = .idle ∨ ∃ st' side' left', p' = .wt st' side' left' ∧ ∀ b ∈ left', b ∈ left) := by
  obtain ⟨h1, h2, h3, h4, h5, h6, -⟩ := (h.thr t x hx).wt _ _ _ hp
  cases left with
  | nil => exact absurd rfl h1
  | cons b rest =>
    obtain ⟨c1, c2⟩ := hc b (List.mem_cons_self ..)
    have hst : st = 0 ∨ st = 1 ∨ st = 2 ∨ st = 3 ∨ st = 4 ∨ st = 5 := by omega
    unfold GS.wait
    rw [hp]
    rcases hst with rfl | rfl | rfl | rfl | rfl | rfl
    · simp only
      rw [if_pos (h0 rfl b (List.mem_cons_self ..))]
      exact ⟨_, _, rfl, by simp only [GP.rem, List.length_cons]; omega, .inr ⟨_, _, _, rfl, fun b hb => hb⟩⟩
    · exact ⟨_, _, rfl, by simp only [GP.rem, List.length_cons]; omega, .inr ⟨_, _, _, rfl, fun b hb => hb⟩⟩
    · simp only
      have e : wat ws (4 * b + 1 + (side + 1) % 2) = 0 := by
        have : (side + 1) % 2 = 0 ∨ (side + 1) % 2 = 1 := by omega
        rcases this with e | e <;> rw [e]
        · exact c1
        · exact c2
      rw [if_pos e]
      exact ⟨_, _, rfl, by simp only [GP.rem, List.length_cons]; omega, .inr ⟨_, _, _, rfl, fun b hb => hb⟩⟩
    · exact ⟨_, _, rfl, by simp only [GP.rem, List.length_cons]; omega, .inr ⟨_, _, _, rfl, fun b hb => hb⟩⟩
    · simp only
      have e : wat ws (4 * b + 1 + side % 2) = 0 := by
        have : side % 2 = 0 ∨ side % 2 = 1 := by omega
        rcases this with e | e <;> rw [e]
        · exact c1
        · exact c2
      rw [if_pos e]
      exact ⟨_, _, rfl, by simp only [GP.rem, List.length_cons]; omega, .inr ⟨_, _, _, rfl, fun b hb => hb⟩⟩
    · simp only
      refine ⟨_, _, rfl, ?_, ?_⟩
      · split
        · rename_i e; subst e; simp [GP.rem]
        · simp only [GP.rem, List.length_cons]; omega
      · split
        · exact .inl rfl
        · exact .inr ⟨_, _, _, rfl, fun b hb => List.mem_cons_of_mem _ hb⟩
/-- A wait stands still or goes on. -/
theorem GInv.wait_less (h : GInv n ⟨ws, th⟩ K) (hx : th[t]? = some x) {st side : Nat} {left : List Nat} (hp : x.p = .wt st side left) : GS.wait ⟨ws, th⟩ t x = ⟨ws, th⟩ ∨ sumR (GS.wait ⟨ws, th⟩ t x).th < sumR th := by
  obtain ⟨h1, h2, h3, h4, h5, h6, -⟩ := (h.thr t x hx).wt _ _ _ hp
  cases left with
  | nil => exact absurd rfl h1
  | cons b rest =>
    have hr : ∀ p' : GP, p'.rem < x.p.rem → sumR (th.set t { x with p := p' }) < sumR th := fun p' hp' => by
      have := sumR_set (x' := { x with p := p' }) hx
      simp only at this
      omega
    have hst : st = 0 ∨ st = 1 ∨ st = 2 ∨ st = 3 ∨ st = 4 ∨ st = 5 := by omega
    unfold GS.wait
    rw [hp]
    rcases hst with rfl | rfl | rfl | rfl | rfl | rfl
    · simp only
      split
      · exact .inr (hr _ (by rw [hp]; simp only [GP.rem, List.length_cons]; omega))
      · exact .inl rfl
    · exact .inr (hr _ (by rw [hp]; simp only [GP.rem, List.length_cons]; omega))
    · simp only
      split
      · exact .inr (hr _ (by rw [hp]; simp only [GP.rem, List.length_cons]; omega))
      · exact .inl rfl
    · exact .inr (hr _ (by rw [hp]; simp only [GP.rem, List.length_cons]; omega))
    · simp only
      split
      · exact .inr (hr _ (by rw [hp]; simp only [GP.rem, List.length_cons]; omega))
      · exact .inl rfl
    · refine .inr (hr _ ?_)
      rw [hp]
      split
      · rename_i e; subst e; simp [GP.rem]
      · simp only [GP.rem, List.length_cons]; omega
theorem enter_less (hx : th[t]? = some x) {c : Option Nat} (hp : x.p = .ent c) : sumR (GS.enter n ⟨ws, th⟩ t x).th < sumR th := by
  unfold GS.enter
  rw [hp]
  cases c with
  | none =>
    have := sumR_set (x' := { x with p := .ent (some (4 * (x.val % n) + 1 + (wat ws (4 * (x.val % n))).toNat % 2)) }) hx
    simp only [hp, GP.rem] at this
    simp only; omega
  | some c =>
    have := sumR_set (x' := { x with p := .inn c, sec := x.sec + 1 }) hx
    simp only [hp, GP.rem] at this
    simp only; omega
/-- A busy thread's turn in a round. -/
def GS.busy (n : Nat) (s : GS) (t : Nat) : GS := match s.th[t]? with
  | none => s
  | some x => match x.p with
    | .idle => s
    | _ => s.act n t 0 0 1
theorem busy_idle (hx : s.th[t]? = some x) (hp : x.p = .idle) : s.busy n t = s := by unfold GS.busy; simp only [hx, hp]
theorem busy_act (hx : s.th[t]? = some x) (hp : x.p ≠ .idle) : s.busy n t = s.act n t 0 0 1 := by
  unfold GS.busy
  simp only [hx]
theorem GInv.busy_less (h : GInv n s K) (t : Nat) : s.busy n t = s ∨ sumR (s.busy n t).th < sumR s.th := by
  obtain ⟨ws, th⟩ := s
  cases hx : th[t]? with
  | none => left; unfold GS.busy; simp only [hx]
  | some x =>
    cases hp : x.p with
    | idle => exact .inl (busy_idle hx hp)
    | ent c =>
      rw [busy_act hx (by rw [hp]; simp)]
      right
      unfold GS.act; simp only [hx, hp]
      exact enter_less hx hp
    | wt st side left =>
      rw [busy_act hx (by rw [hp]; simp)]
      unfold GS.act; simp only [hx, hp]
      exact h.wait_less hx hp
    | inn c =>
      rw [busy_act hx (by rw [hp]; simp)]
      right
      unfold GS.act; simp only [hx, hp]
      rw [if_neg (by decide)]
      have := sumR_set (x' := { x with p := .idle }) hx
      simp only [hp, GP.rem] at this
      simp only; omega
theorem GInv.busy (h : GInv n s K) (t : Nat) : GInv n (s.busy n t) (K + 1) := by
  unfold GS.busy
  split
  · exact h.mono (by omega)
  · split
    · exact h.mono (by omega)
    · exact h.act t 0 0 1 (by decide) (by decide) (by decide)
/-- Nobody in a section: the counts are zero. -/
theorem GInv.zero (h : GInv n ⟨ws, th⟩ K) {b : Nat} (hb : b < n) (hn : ∀ (t : Nat) (x : GA), th[t]? = some x → x.p.isIn = true → x.val % n ≠ b) : wat ws (4 * b + 1) = 0 ∧ wat ws (4 * b + 2) = 0 := by
  obtain ⟨c1, c2⟩ := h.cnt b hb
  have hz : ∀ a, a = 4 * b + 1 ∨ a = 4 * b + 2 → cntIn a th = 0 := fun a ha => cntIn_zero fun t x hx => by
    cases hp : x.p with
    | inn c =>
      have h1 := ((h.thr t x hx).inn c hp).1
      have h2 := hn t x hx (by rw [hp]; rfl)
      simp only [GP.isAt, beq_eq_false_iff_ne, ne_eq]
      omega
    | idle => rfl
    | ent c => rfl
    | wt a b c => rfl
  exact ⟨(wat_of c1).trans (hz _ (.inl rfl)), (wat_of c2).trans (hz _ (.inr rfl))⟩
/-- Where no thread can go on, all are idle. -/
theorem GInv.stuck (h : GInv n s K) (hs : ∀ t, t < 6 → s.busy n t = s) : ∀ (t : Nat) (x : GA), s.th[t]? = some x → x.p = .idle := by
  obtain ⟨ws, th⟩ := s
  have nl : ∀ (t : Nat) (x : GA), th[t]? = some x → ¬ sumR ((⟨ws, th⟩ : GS).busy n t).th < sumR th := fun t x hx hlt => by
    rw [hs t (by have := lt_at hx; have := h.lt; simp only at this; omega)] at hlt
    exact absurd hlt (Nat.lt_irrefl _)
  have ne : ∀ (t : Nat) (x : GA), th[t]? = some x → ∀ c, x.p ≠ .ent c := fun t x hx c hp => nl t x hx (by
    rw [busy_act hx (by rw [hp]; simp)]
    unfold GS.act; simp only [hx, hp]
    exact enter_less hx hp)
  have ni : ∀ (t : Nat) (x : GA), th[t]? = some x → ∀ c, x.p ≠ .inn c := fun t x hx c hp => nl t x hx (by
    rw [busy_act hx (by rw [hp]; simp)]
    unfold GS.act; simp only [hx, hp]
    rw [if_neg (by decide)]
    have := sumR_set (x' := { x with p := .idle }) hx
    simp only [hp, GP.rem] at this
    simp only; omega)
  have nz : ∀ b, b < n → wat ws (4 * b + 1) = 0 ∧ wat ws (4 * b + 2) = 0 := fun b hb => h.zero hb (fun t x hx hi => by
    cases hp : x.p with
    | inn c => exact absurd hp (ni t x hx c)
    | idle => rw [hp] at hi; cases hi
    | ent c => rw [hp] at hi; cases hi
    | wt a b c => rw [hp] at hi; cases hi)
  have go : ∀ (t : Nat) (x : GA), th[t]? = some x → ∀ st side left, x.p = .wt st side left → ¬ (st = 0 → ∀ b ∈ left, wat ws (4 * b + 3) = 0) := fun t x hx st side left hp h0 => by
    obtain ⟨ws', p', e1, e2, -⟩ := h.wait_go hx hp h0 (fun b hb => nz b (((h.thr t x hx).wt _ _ _ hp).2.2.2.1 b hb))
    refine nl t x hx ?_
    rw [busy_act hx (by rw [hp]; simp)]
    unfold GS.act; simp only [hx, hp]
    rw [e1]
    have := sumR_set (x' := { x with p := p' }) hx
    simp only at this ⊢
    omega
  intro t x hx
  cases hp : x.p with
  | idle => rfl
  | ent c => exact absurd hp (ne t x hx c)
  | inn c => exact absurd hp (ni t x hx c)
  | wt st side left =>
    refine absurd (fun e b hb => ?_) (go t x hx st side left hp)
    have hbn := ((h.thr t x hx).wt _ _ _ hp).2.2.2.1 b hb
    rcases h.lat b hbn with ⟨e, -⟩ | ⟨u, y, hy, hh, -⟩
    · exact wat_of e
    · exfalso
      cases hq : y.p with
      | wt st' side' left' =>
        refine go u y hy st' side' left' hq (fun e => ?_)
        subst e
        rw [hq, holds_zero] at hh
        cases hh
      | idle => rw [hq] at hh; cases hh
      | ent c => rw [hq] at hh; cases hh
      | inn c => rw [hq] at hh; cases hh
/-- The turns of a round, and the rounds. -/
def GS.rnd (n : Nat) (s : GS) : Nat → GS
  | 0 => s
  | t + 1 => (GS.rnd n s t).busy n t
def GS.rnds (n : Nat) (s : GS) : Nat → GS
  | 0 => s
  | r + 1 => (GS.rnds n s r).rnd n 6
theorem GInv.rnd (h : GInv n s K) (t : Nat) : GInv n (s.rnd n t) (K + t) := by
  induction t with
  | zero => exact h.mono (by omega)
  | succ t ih => exact (ih.busy t).mono (by omega)
theorem GInv.rnd_less (h : GInv n s K) (t : Nat) : (s.rnd n t = s ∧ ∀ j, j < t → s.busy n j = s) ∨ sumR (s.rnd n t).th < sumR s.th := by
  induction t with
  | zero => exact .inl ⟨rfl, fun j hj => by omega⟩
  | succ t ih =>
    rcases ih with ⟨e, hj⟩ | ih
    · have e' : s.rnd n (t + 1) = s.busy n t := by show (s.rnd n t).busy n t = _; rw [e]
      rw [e']
      rcases h.busy_less t with h1 | h1
      · exact .inl ⟨h1, fun j hjt => by
          by_cases e : j = t
          · subst e; exact h1
          · exact hj j (by omega)⟩
      · exact .inr h1
    · right
      show sumR ((s.rnd n t).busy n t).th < _
      rcases (h.rnd t).busy_less t with h1 | h1
      · rw [h1]; exact ih
      · omega
theorem sumR_idle (h : ∀ (t : Nat) (x : GA), th[t]? = some x → x.p = .idle) : sumR th = 0 := by
  have := sumR_bound (th := th) (m := 0) (fun x hx => by
    obtain ⟨i, hi⟩ := List.getElem?_of_mem hx
    rw [h i x hi]; exact Nat.le_refl _)
  omega
theorem GInv.rnds (h : GInv n s K) (r : Nat) : GInv n (s.rnds n r) (K + 6 * r) := by
  induction r with
  | zero => exact h.mono (by omega)
  | succ r ih => exact (ih.rnd 6).mono (by omega)
theorem GInv.rnds_sum (h : GInv n s K) (r : Nat) : sumR (s.rnds n r).th + r ≤ sumR s.th ∨ sumR (s.rnds n r).th = 0 := by
  induction r with
  | zero => exact .inl (Nat.le_refl _)
  | succ r ih =>
    show sumR ((s.rnds n r).rnd n 6).th + (r + 1) ≤ _ ∨ sumR ((s.rnds n r).rnd n 6).th = 0
    rcases (h.rnds r).rnd_less 6 with ⟨h1, h2⟩ | h1
    · rw [h1]; exact .inr (sumR_idle ((h.rnds r).stuck h2))
    · omega
theorem GInv.rnds_idle (h : GInv n s K) (hn : n ≤ 6) {r : Nat} (hr : 216 ≤ r) : ∀ (t : Nat) (x : GA), (s.rnds n r).th[t]? = some x → x.p = .idle := by
  intro t x hx
  have hb : sumR s.th ≤ 36 * s.th.length := sumR_bound (fun x hx => by
    obtain ⟨i, hi⟩ := List.getElem?_of_mem hx
    have := h.rem_le (ws := s.ws) (th := s.th) hi
    omega)
  rw [h.lt] at hb
  have hz : sumR (s.rnds n r).th = 0 := by
    rcases h.rnds_sum r with h1 | h1 <;> omega
  have := sumR_le hx
  exact GInv.rem_idle (ws := (s.rnds n r).ws) (th := (s.rnds n r).th) (h.rnds r) hx (by omega)

/-! A wait beside sections that do not concern it. -/
/-- After m steps of the wait of thread 5; q: the value o does not concern it, and the other threads take sections of it alone. -/
structure LW (n : Nat) (q : Bool) (o m : Nat) (s : GS) : Prop where
  oth : ∀ (j : Nat) (x : GA), j ≠ 5 → s.th[j]? = some x → x.p.isWt = false ∧ (x.p ≠ .idle → q = true ∧ x.val % n = o % n)
  five : ∀ x, s.th[5]? = some x → x.p = .idle ∨ ∃ st side left, x.p = .wt st side left ∧ x.p.rem + m ≤ 6 * n ∧ ∀ b ∈ left, q = true → b ≠ o % n
theorem LW.go (h : LW n q o m ⟨ws, th⟩) (hI : GInv n ⟨ws, th⟩ K) {st side : Nat} {left : List Nat} (hx : th[5]? = some x) (hp : x.p = .wt st side left) :
    LW n q o (m + 1) (GS.wait ⟨ws, th⟩ 5 x) := by
  obtain ⟨k1, k2, k3, k4, -⟩ := (hI.thr 5 x hx).wt _ _ _ hp
  obtain ⟨st0, side0, left0, q1, q2, q3⟩ := (h.five x hx).resolve_left (by rw [hp]; simp)
  rw [hp] at q1
  simp only [GP.wt.injEq] at q1
  obtain ⟨rfl, rfl, rfl⟩ := q1
  obtain ⟨ws', p', e1, e2, e3⟩ := hI.wait_go hx hp (fun e b hb => by
    rcases hI.lat b (k4 b hb) with ⟨e, -⟩ | ⟨u, y, hy, hh, -⟩
    · exact wat_of e
    · exfalso
      by_cases hu : u = 5
      · subst hu
        rw [show th[5]? = some y from hy] at hx
        obtain rfl := Option.some.inj hx
        rw [hp, e, holds_zero] at hh
        cases hh
      · have := (h.oth u y hu hy).1
        cases hq : y.p with
        | wt st' side' left' => rw [hq] at this; cases this
        | idle => rw [hq] at hh; cases hh
        | ent c => rw [hq] at hh; cases hh
        | inn c => rw [hq] at hh; cases hh) (fun b hb => hI.zero (k4 b hb) (fun u y hy hi => by
      by_cases hu : u = 5
      · subst hu
        rw [hy] at hx
        obtain rfl := Option.some.inj hx
        rw [hp] at hi; cases hi
      · have := (h.oth u y hu hy).2 (by intro e; rw [e] at hi; cases hi)
        rw [this.2]
        exact fun e => q3 b hb this.1 e.symm))
  rw [e1]
  refine ⟨fun j y hj hy => ?_, fun y hy => ?_⟩
  · rcases set_cases hy with ⟨e, -⟩ | ⟨-, e⟩
    · exact absurd e hj
    · exact h.oth j y hj e
  · rcases set_cases hy with ⟨-, e⟩ | ⟨e, -⟩
    · subst e
      rcases e3 with e3 | ⟨st', side', left', e3, e4⟩
      · exact .inl e3
      · refine .inr ⟨st', side', left', e3, ?_, fun b hb => q3 b (e4 b hb)⟩
        simp only at *
        omega
    · exact absurd rfl e
theorem LW.next (h : LW n q o m s) (hI : GInv n s K) (hx : s.th[5]? = some x) (hw : x.p.isWt = true) (what : Int) (v set : Nat) : LW n q o (m + 1) (s.act n 5 what v set) := by
  obtain ⟨ws, th⟩ := s
  simp only at hx
  cases hp : x.p with
  | wt st side left =>
    unfold GS.act
    simp only [hx, hp]
    exact h.go hI hx hp
  | idle => rw [hp] at hw; cases hw
  | ent c => rw [hp] at hw; cases hw
  | inn c => rw [hp] at hw; cases hw
theorem LW.lt (h : LW n q o m s) (hI : GInv n s K) (hx : s.th[5]? = some x) (hw : x.p.isWt = true) : m < 6 * n := by
  obtain ⟨ws, th⟩ := s
  rcases h.five x hx with e | ⟨st, side, left, e1, e2, e3⟩
  · rw [e] at hw; cases hw
  · have : x.p.rem ≠ 0 := fun e => by
      have := hI.rem_idle hx e
      rw [this] at hw; cases hw
    omega
theorem LW.idle (h : LW n q o m s) (hx : s.th[5]? = some x) (hw : x.p.isWt = false) : x.p = .idle := by
  rcases h.five x hx with e | ⟨st, side, left, e1, e2, e3⟩
  · exact e
  · rw [e1] at hw; cases hw
theorem LW.first (hI : GInv n s K) (hi : ∀ (t : Nat) (x : GA), s.th[t]? = some x → x.p = .idle) (q : Bool) (o set v : Nat) (h0 : set ≠ 0) (h1 : set < 18446744073709551616) (hq : q = true → inB set n (o % n) = false) : LW n q o 1 (s.act n 5 2 v set) := by
  obtain ⟨ws, th⟩ := s
  obtain ⟨x, hx⟩ : ∃ x, th[5]? = some x := ⟨_, List.getElem?_eq_getElem (by have := hI.lt; simp only at this; omega)⟩
  have hp := hi 5 x hx
  unfold GS.act
  simp only [hx, hp]
  rw [if_neg (by decide)]
  have hI2 := hI.wbegin hx hp h0 h1
  have hx2 : (th.set 5 { x with p := .wt 0 0 (bkts set n), set := set, must := gList th set 6 })[5]? = some { x with p := .wt 0 0 (bkts set n), set := set, must := gList th set 6 } := put_self hx _
  have hL : LW n q o 0 ⟨ws, th.set 5 { x with p := .wt 0 0 (bkts set n), set := set, must := gList th set 6 }⟩ := by
    refine ⟨fun j y hj hy => ?_, fun y hy => ?_⟩
    · rcases set_cases hy with ⟨e, -⟩ | ⟨-, e⟩
      · exact absurd e hj
      · have := hi j y e
        exact ⟨by rw [this]; rfl, fun e => absurd this e⟩
    · rcases set_cases hy with ⟨-, e⟩ | ⟨e, -⟩
      · subst e
        refine .inr ⟨0, 0, bkts set n, rfl, ?_, fun b hb hq1 e => ?_⟩
        · have := bktTo_len set n n
          simp only [GP.rem, bkts]
          omega
        · have := (mem_bkts.1 hb).2
          rw [e, hq hq1] at this
          cases this
      · exact absurd rfl e
  exact hL.go hI2 hx2 rfl
theorem LW.other (h : LW n q o m s) (hI : GInv n s K) {t : Nat} (t5 : t ≠ 5) (hq : q = true) (set : Nat) : LW n q o m (s.act n t 0 o set) := by
  obtain ⟨ws, th⟩ := s
  unfold GS.act
  simp only
  cases hx : th[t]? with
  | none => exact h
  | some x =>
    obtain ⟨n1, n2⟩ := h.oth t x t5 hx
    have put : ∀ (ws' : List Int) (x' : GA), x'.p.isWt = false → (x'.p ≠ .idle → x'.val % n = o % n) → LW n q o m ⟨ws', th.set t x'⟩ := fun ws' x' h1 h2 => by
      refine ⟨fun j y hj hy => ?_, fun y hy => ?_⟩
      · rcases set_cases hy with ⟨e1, e2⟩ | ⟨-, e⟩
        · subst e2; exact ⟨h1, fun e => ⟨hq, h2 e⟩⟩
        · exact h.oth j y hj e
      · rcases set_cases hy with ⟨e, -⟩ | ⟨-, e⟩
        · exact absurd e.symm t5
        · exact h.five y e
    simp only
    cases hp : x.p with
    | wt a b c => rw [hp] at n1; cases n1
    | inn c =>
      simp only
      rw [if_neg (by decide)]
      exact put _ _ rfl (fun e => absurd rfl e)
    | ent c =>
      have hv := (n2 (by rw [hp]; simp)).2
      simp only
      unfold GS.enter
      rw [hp]
      cases c with
      | none => exact put _ _ rfl (fun _ => hv)
      | some c => exact put _ _ rfl (fun _ => hv)
    | idle =>
      simp only
      rw [if_pos (by decide)]
      unfold GS.enter
      simp only
      rw [List.set_set]
      exact put _ _ rfl (fun _ => rfl)
end
end Go.Lf
