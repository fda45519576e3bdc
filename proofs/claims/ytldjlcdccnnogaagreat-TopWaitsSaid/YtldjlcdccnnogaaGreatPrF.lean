/- full behind prcu's face. -/
import Derived.Test.YtldjlcdccnnogaaGreatPrc
import Derived.Test.YtldjlcdccnnogaaGreatMgF
set_option linter.unusedVariables false
set_option linter.unusedSimpArgs false
namespace Go.Lf
open Go.RowKit
/-- An operation of full: entering (live: not yet done), or a wait. -/
inductive FOp where
  | en (t : Int) (i : Nat) (live : Bool)
  | wa (t : Int) (s : WS)
structure FSy where
  nums : List Int
  beg : List Bool
  ws : List Int
  log : List Acc
def FOp.thr : FOp → Int
  | .en t _ _ => t
  | .wa t _ => t
/-- A wait, by the numbers of the slots and what the threads do. -/
structure FWk (n : Nat) (q : Nat → Int) (T : Nat → TS) (M : Nat → Prop) (s : WS) : Prop where
  seen : s.st = 1 → s.first % 2 = 1 ∧ s.first ≤ q s.pos
  ah : ∀ j, j < n → M j → (∃ v, T j = .inn v) ∧ s.pos ≤ j ∧ (s.pos = j → s.st ≠ 0 → s.first = q j)
theorem WS.next_pos (n : Nat) (s : WS) : (s.next n).pos = s.pos + 1 ∧ (s.next n).first = s.first ∧ ((s.next n).st = 2 ∧ s.pos + 1 = n ∨ (s.next n).st = 0 ∧ s.pos + 1 ≠ n) := by
  unfold WS.next
  split
  · rename_i h; exact ⟨rfl, rfl, .inl ⟨rfl, h⟩⟩
  · rename_i h; exact ⟨rfl, rfl, .inr ⟨rfl, h⟩⟩
section
variable {n k j o : Nat} {q q' : Nat → Int} {T T' : Nat → TS} {M M' : Nat → Prop} {s : WS}
theorem FWk.other (h : FWk n q T M s) (hk : ∀ j, j ≠ k → T' j = T j ∧ q' j = q j) (hq : q k ≤ q' k) (hM : ∀ j, M' j → M j) (hMk : (∃ v, T k = .inn v) → ¬ M' k) : FWk n q' T' M' s := by
  refine ⟨fun h0 => ?_, fun j hj hm => ?_⟩
  · obtain ⟨a, b⟩ := h.seen h0
    by_cases e : s.pos = k
    · rw [e] at b ⊢
      exact ⟨a, by omega⟩
    · rw [(hk _ e).2]; exact ⟨a, b⟩
  · have e : j ≠ k := by
      rintro rfl
      obtain ⟨⟨v, hv⟩, -⟩ := h.ah j hj (hM j hm)
      exact hMk ⟨v, hv⟩ hm
    rw [(hk j e).1, (hk j e).2]
    exact h.ah j hj (hM j hm)
theorem FWk.start (hM : ∀ j, M j → ∃ v, T j = .inn v) (h : s.pos = 0 ∧ s.st = 0) : FWk n q T M s :=
  ⟨fun h0 => by omega, fun j _ hm => ⟨hM j hm, by omega, fun _ h0 => absurd h.2 h0⟩⟩
theorem FWk.step (h : FWk n q T M s) (hp : s.pos < n) (h3 : s.st < 2) (odd : ∀ j, j < n → (q j % 2 = 1 ↔ ∃ v, T j = .inn v)) {y : Int} (hy : y = q s.pos) :
    FWk n q T M (s.step n y) ∧ (2 ≤ (s.step n y).st → (s.step n y).pos = n) ∧ (¬ 2 ≤ (s.step n y).st → (s.step n y).pos < n) ∧ (n - (s.step n y).pos + 1 ≤ n - s.pos ∨ ∃ v, T s.pos = .inn v) ∧ (s.step n y).pos ≤ n := by
  have nx : ¬ M s.pos → FWk n q T M (s.next n) ∧ (2 ≤ (s.next n).st → (s.next n).pos = n) ∧ (¬ 2 ≤ (s.next n).st → (s.next n).pos < n) ∧ (n - (s.next n).pos + 1 ≤ n - s.pos ∨ ∃ v, T s.pos = .inn v) ∧ (s.next n).pos ≤ n := by
    intro hm
    obtain ⟨a1, a2, a3⟩ := s.next_pos n
    refine ⟨⟨fun h0 => ?_, fun j hj hmj => ?_⟩, fun h => ?_, fun h => ?_, .inl ?_, ?_⟩
    · rcases a3 with ⟨a, b⟩ | ⟨a, b⟩ <;> omega
    · obtain ⟨c1, c2, c3⟩ := h.ah j hj hmj
      have : s.pos ≠ j := fun e => hm (e ▸ hmj)
      refine ⟨c1, by omega, fun e h0 => ?_⟩
      rcases a3 with ⟨a, b⟩ | ⟨a, b⟩
      · omega
      · exact absurd a h0
    · rcases a3 with ⟨a, b⟩ | ⟨a, b⟩ <;> omega
    · rcases a3 with ⟨a, b⟩ | ⟨a, b⟩ <;> omega
    · rcases a3 with ⟨a, b⟩ | ⟨a, b⟩ <;> omega
    · omega
  unfold WS.step
  split
  · rename_i h0
    split
    · rename_i h1
      refine nx (fun hm => ?_)
      have := (odd _ hp).2 (h.ah _ hp hm).1
      omega
    · rename_i h1
      have h1 : y % 2 = 1 := by omega
      refine ⟨⟨fun _ => ⟨h1, by show y ≤ q s.pos; omega⟩, fun j hj hm => ?_⟩, fun h => by simp at h, fun _ => hp, .inr ((odd _ hp).1 (by rw [← hy]; exact h1)), by show s.pos ≤ n; omega⟩
      obtain ⟨c1, c2, -⟩ := h.ah j hj hm
      exact ⟨c1, c2, fun e _ => by show y = q j; rw [hy]; exact congrArg q e⟩
  · rename_i h0
    have hs := h.seen (by omega)
    split
    · rename_i h1
      exact ⟨h, fun h => by omega, fun _ => hp, .inr ((odd _ hp).1 (by rw [← hy, h1]; exact hs.1)), by omega⟩
    · rename_i h1
      refine nx (fun hm => ?_)
      exact h1 (hy.trans ((h.ah _ hp hm).2.2 rfl h0).symm)
def FSy.qn (S : FSy) (k : Nat) : Int := (S.nums[k]?).getD 0
theorem fqn_of {S : FSy} {k : Nat} {p : Int} (h : S.nums[k]? = some p) : S.qn k = p := by rw [FSy.qn, h]; rfl
/-- What thread k does, in the state. -/
def FTh (n : Nat) (S : FSy) (ops : List FOp) (o : Nat) (x : RX) (k : Nat) : Prop := match x.T k with
  | .idle => S.beg[k]? = some false ∧ S.qn k % 2 = 0
  | .en v => 0 ≤ v ∧ v < 64 ∧ S.beg[k]? = some true ∧ S.qn k % 2 = 0 ∧ ops[o]? = some (.en k k true)
  | .inn v => 0 ≤ v ∧ v < 64 ∧ S.beg[k]? = some false ∧ S.qn k % 2 = 1
  | .wa set bg => S.beg[k]? = some false ∧ S.qn k % 2 = 0 ∧ 0 < set ∧ set < 18446744073709551616 ∧ ∃ s, ops[o]? = some (.wa k s) ∧ s.st < 2 ∧ s.pos < n ∧ (bg = false → s.pos = 0 ∧ s.st = 0) ∧ x.R k = n - s.pos ∧ FWk n S.qn x.T (if bg = true then x.M k else fun _ => False) s
structure FX (n : Nat) (S : FSy) (ops : List FOp) (oi : Nat → Nat) (x : RX) : Prop where
  ln : S.nums.length = n
  lb : S.beg.length = n
  llog : S.log.length ≤ x.K
  q : ∀ k, k < n → 0 ≤ S.qn k ∧ S.qn k ≤ x.K ∧ S.ws[k]? = some (S.qn k)
  th : ∀ k, k < n → FTh n S ops (oi k) x k
variable {S S' : FSy} {ops ops' : List FOp} {oi : Nat → Nat} {x x' : RX}
theorem FX.num (h : FX n S ops oi x) (hk : k < n) : S.nums[k]? = some (S.qn k) := by
  obtain ⟨p, hp⟩ : ∃ p, S.nums[k]? = some p := ⟨_, List.getElem?_eq_getElem (by have := h.ln; omega)⟩
  rw [fqn_of hp]; exact hp
theorem FTh.other (h : FTh n S ops o x j) (hj : j ≠ k) (hqn : ∀ i, i ≠ k → S'.qn i = S.qn i) (hbg : ∀ i, i ≠ k → S'.beg[i]? = S.beg[i]?) (ho : ∀ a, ops[o]? = some a → a.thr = j → ops'[o]? = some a) (hT : ∀ i, i ≠ k → x'.T i = x.T i) (hR : x'.R j = x.R j) (hM : ∀ i, x'.M j i → x.M j i)
    (hq : S.qn k ≤ S'.qn k) (hMk : (∃ v, x.T k = .inn v) → ¬ x'.M j k) : FTh n S' ops' o x' j := by
  unfold FTh at h ⊢
  rw [hT j hj]
  split at h
  · rw [hbg j hj, hqn j hj]; exact h
  · obtain ⟨a, b, c, d, e⟩ := h
    exact ⟨a, b, by rw [hbg j hj]; exact c, by rw [hqn j hj]; exact d, ho _ e rfl⟩
  · rw [hbg j hj, hqn j hj]; exact h
  · rename_i set bg hh
    obtain ⟨a, a', b, c, s, d, e, f, g, r, m⟩ := h
    refine ⟨by rw [hbg j hj]; exact a, by rw [hqn j hj]; exact a', b, c, s, ho _ d rfl, e, f, g, by rw [hR]; exact r, m.other (k := k) (fun i hi => ⟨hT i hi, hqn i hi⟩) hq (fun i hi => ?_) (fun hv => ?_)⟩
    · cases bg with
      | true => exact hM i hi
      | false => exact hi
    · cases bg with
      | true => exact hMk hv
      | false => exact fun h => h
theorem FX.odd (h : FX n S ops oi x) (j : Nat) (hj : j < n) : S.qn j % 2 = 1 ↔ ∃ v, x.T j = .inn v := by
  have ht := h.th j hj
  unfold FTh at ht
  split at ht
  · rename_i e
    exact ⟨fun h => by omega, fun ⟨v, hv⟩ => by rw [e] at hv; cases hv⟩
  · rename_i e
    exact ⟨fun h => by omega, fun ⟨v, hv⟩ => by rw [e] at hv; cases hv⟩
  · rename_i v e
    exact ⟨fun _ => ⟨v, e⟩, fun _ => ht.2.2.2⟩
  · rename_i e
    exact ⟨fun h => by omega, fun ⟨v, hv⟩ => by rw [e] at hv; cases hv⟩
theorem fops_ho {a b : Nat} {o o' : FOp} (hk0 : ops[a]? = some o) (ht : o.thr = (k : Int)) (hj : j ≠ k) : ∀ p, ops[b]? = some p → p.thr = j → (ops.set a o')[b]? = some p := by
  intro p hp hq
  rw [List.getElem?_set, if_neg (fun e => ?_)]
  · exact hp
  · subst e
    rw [hk0] at hp
    cases hp
    omega
theorem fops_app {b : Nat} {o' p : FOp} (hp : ops[b]? = some p) : (ops ++ [o'])[b]? = some p := by
  rw [List.getElem?_append_left (List.getElem?_eq_some_iff.1 hp).1]; exact hp
theorem fset_ne {α : Type} {l : List α} {a : α} : ∀ i, i ≠ k → (l.set k a)[i]? = l[i]? := fun i hi => by rw [List.getElem?_set, if_neg (fun e => hi e.symm)]
theorem FX.enter (h : FX n S ops oi x) (hn : n ≤ 6) (hk : k < n) {v : Int} (hT : x.T k = .idle) (v0 : 0 ≤ v) (v1 : v < 64) (b : Nat) : FX n ⟨S.nums, S.beg.set k true, S.ws, S.log⟩ (ops ++ [.en k k true]) (upd oi k ops.length) (x.enter k v b) := by
  have hc := h.th k hk
  unfold FTh at hc
  rw [hT] at hc
  simp only at hc
  refine ⟨h.ln, by simp [h.lb], by show S.log.length ≤ x.K + 1; have := h.llog; omega, fun j hj => ?_, fun j hj => ?_⟩
  · obtain ⟨a, b, c⟩ := h.q j hj
    exact ⟨a, by show S.qn j ≤ ((x.K + 1 : Nat) : Int); omega, c⟩
  · by_cases e : j = k
    · subst e
      unfold FTh
      simp only [RX.enter, upd_self]
      exact ⟨v0, v1, put_self hc.1 _, hc.2, by simp⟩
    · rw [upd_ne _ _ e]
      exact (h.th j hj).other e (fun _ _ => rfl) fset_ne (fun a ha _ => fops_app ha) (fun i hi => upd_ne _ _ hi) rfl (fun i hi => hi) (Int.le_refl _) (fun ⟨v, hv⟩ => by rw [hT] at hv; cases hv)
/-- A sequence word is advanced. -/
def FSy.adv (S : FSy) (k : Nat) (q : Int) (b : List Bool) : FSy := ⟨S.nums.set k (q + 1), b, S.ws.set k (q + 1), S.log ++ [⟨k, k, 2, q, q + 1, false⟩]⟩
theorem FX.adv_q (h : FX n S ops oi x) (hk : k < n) (b : List Bool) : (S.adv k (S.qn k) b).qn k = S.qn k + 1 ∧ (∀ i, i ≠ k → (S.adv k (S.qn k) b).qn i = S.qn i) ∧ ∀ j, j < n → 0 ≤ (S.adv k (S.qn k) b).qn j ∧ (S.adv k (S.qn k) b).qn j ≤ ((x.K + 1 : Nat) : Int) ∧ (S.adv k (S.qn k) b).ws[j]? = some ((S.adv k (S.qn k) b).qn j) := by
  have e1 : (S.adv k (S.qn k) b).qn k = S.qn k + 1 := fqn_of (put_self (h.num hk) _)
  have e2 : ∀ i, i ≠ k → (S.adv k (S.qn k) b).qn i = S.qn i := fun i hi => by unfold FSy.qn FSy.adv; rw [fset_ne i hi]
  refine ⟨e1, e2, fun j hj => ?_⟩
  obtain ⟨a, c, d⟩ := h.q j hj
  by_cases e : j = k
  · subst e
    rw [e1]
    exact ⟨by omega, by omega, put_self d _⟩
  · rw [e2 j e]
    exact ⟨a, by omega, by show (S.ws.set _ _)[_]? = _; rw [fset_ne j e]; exact d⟩
theorem FX.estep (h : FX n S ops oi x) (hn : n ≤ 6) (hk : k < n) {v : Int} (hT : x.T k = .en v) : ops[oi k]? = some (.en k k true) ∧ FX n (S.adv k (S.qn k) (S.beg.set k false)) (ops.set (oi k) (.en k k false)) oi (x.estep k v true) := by
  have hc := h.th k hk
  unfold FTh at hc
  rw [hT] at hc
  simp only at hc
  obtain ⟨v0, v1, hb, hev, ho⟩ := hc
  obtain ⟨e1, e2, e3⟩ := h.adv_q hk (S.beg.set k false)
  refine ⟨ho, by simp [FSy.adv, h.ln], by simp [FSy.adv, h.lb], by have := h.llog; simp [FSy.adv, RX.estep]; omega, e3, fun j hj => ?_⟩
  by_cases e : j = k
  · subst e
    unfold FTh
    simp only [RX.estep, upd_self, if_true]
    refine ⟨v0, v1, ?_, ?_⟩
    · unfold FSy.adv; exact put_self hb _
    · rw [e1]; omega
  · refine (h.th j hj).other e e2 fset_ne (fops_ho ho rfl e) (fun i hi => upd_ne _ _ hi) rfl (fun i hi => hi) ?_ (fun ⟨v, hv⟩ => by rw [hT] at hv; cases hv)
    rw [e1]; omega
theorem FX.exit (h : FX n S ops oi x) (hn : n ≤ 6) (hk : k < n) {v : Int} (hT : x.T k = .inn v) : S.qn k % 2 = 1 ∧ FX n (S.adv k (S.qn k) S.beg) ops oi (x.exit k) := by
  have hc := h.th k hk
  unfold FTh at hc
  rw [hT] at hc
  simp only at hc
  obtain ⟨v0, v1, hb, hod⟩ := hc
  obtain ⟨e1, e2, e3⟩ := h.adv_q hk S.beg
  refine ⟨hod, by simp [FSy.adv, h.ln], by simp [FSy.adv, h.lb], by have := h.llog; simp [FSy.adv, RX.exit]; omega, e3, fun j hj => ?_⟩
  by_cases e : j = k
  · subst e
    unfold FTh
    simp only [RX.exit, upd_self]
    refine ⟨hb, ?_⟩
    rw [e1]; omega
  · refine (h.th j hj).other e e2 (fun _ _ => rfl) (fun a ha _ => ha) (fun i hi => upd_ne _ _ hi) rfl (fun i hi => hi.1) ?_ (fun _ hm => hm.2 rfl)
    rw [e1]; omega
theorem FX.wait (h : FX n S ops oi x) (hn : n ≤ 6) (hk : k < n) {set : Int} (hT : x.T k = .idle) (s0 : 0 < set) (s1 : set < 18446744073709551616) (b : Nat) : FX n S (ops ++ [.wa k ⟨0, 0, 0⟩]) (upd oi k ops.length) (x.wait k set n b) := by
  have hc := h.th k hk
  unfold FTh at hc
  rw [hT] at hc
  simp only at hc
  refine ⟨h.ln, h.lb, by show S.log.length ≤ x.K + 1; have := h.llog; omega, fun j hj => ?_, fun j hj => ?_⟩
  · obtain ⟨a, b, c⟩ := h.q j hj
    exact ⟨a, by show S.qn j ≤ ((x.K + 1 : Nat) : Int); omega, c⟩
  · by_cases e : j = k
    · subst e
      unfold FTh
      simp only [RX.wait, upd_self]
      exact ⟨hc.1, hc.2, s0, s1, ⟨0, 0, 0⟩, by simp, by simp, by show 0 < n; omega, fun _ => ⟨rfl, rfl⟩, rfl, FWk.start (fun _ h => h.elim) ⟨rfl, rfl⟩⟩
    · rw [upd_ne _ _ e]
      exact (h.th j hj).other e (fun _ _ => rfl) (fun _ _ => rfl) (fun a ha _ => fops_app ha) (fun i hi => upd_ne _ _ hi) (upd_ne _ _ e) (fun i hi => hi) (Int.le_refl _) (fun ⟨v, hv⟩ => by rw [hT] at hv; cases hv)
/-- The access of a wait's step. -/
def FSy.look (S : FSy) (k pos : Nat) : FSy := ⟨S.nums, S.beg, S.ws, S.log ++ [⟨k, pos, 1, S.qn pos, S.qn pos, false⟩]⟩
theorem FX.wstep (h : FX n S ops oi x) (hn : n ≤ 6) (hk : k < n) {set : Int} {bg : Bool} (hT : x.T k = .wa set bg) :
    ∃ s, ops[oi k]? = some (.wa k s) ∧ s.st < 2 ∧ s.pos < n ∧ ∃ r, FX n (S.look k s.pos) (ops.set (oi k) (.wa k (s.step n (S.qn s.pos)))) oi (x.wstep k set bg (decide (2 ≤ (s.step n (S.qn s.pos)).st)) r) ∧
      (decide (2 ≤ (s.step n (S.qn s.pos)).st) = true → ∀ j, j < n → ¬ x.must k set bg j) ∧ r ≤ n ∧ (r + 1 ≤ x.R k ∨ ∃ j v, j < n ∧ x.T j = .inn v) := by
  have hc := h.th k hk
  unfold FTh at hc
  rw [hT] at hc
  simp only at hc
  obtain ⟨hc, hev, s0, s1, s, ho, h3, hp, hbg, hR, hE⟩ := hc
  have nT : ∀ u, x.T k ≠ .inn u := fun u hu => by rw [hT] at hu; cases hu
  have hE2 : FWk n S.qn x.T (fun j => j < n ∧ x.must k set bg j) s := by
    cases bg with
    | true => exact ⟨hE.seen, fun j hj hm => hE.ah j hj hm.2⟩
    | false => exact FWk.start (fun j ⟨hj, v, hv, hh⟩ => ⟨v, hv⟩) (hbg rfl)
  obtain ⟨q1, q2, q3, q4, q5⟩ := hE2.step hp h3 h.odd rfl
  refine ⟨s, ho, h3, hp, ?_⟩
  generalize hs' : s.step n (S.qn s.pos) = s' at *
  refine ⟨n - s'.pos, ⟨h.ln, h.lb, by have := h.llog; simp [FSy.look, RX.wstep]; omega, fun j hj => ?_, fun j hj => ?_⟩, fun hd j hj hm => ?_, by omega, ?_⟩
  · obtain ⟨a, b, c⟩ := h.q j hj
    exact ⟨a, by show S.qn j ≤ ((x.K + 1 : Nat) : Int); omega, c⟩
  · by_cases e : j = k
    · subst e
      unfold FTh
      simp only [RX.wstep, upd_self]
      by_cases hd : 2 ≤ s'.st
      · rw [decide_eq_true hd]
        simp only [if_true]
        exact ⟨hc, hev⟩
      · rw [decide_eq_false hd]
        simp only [Bool.false_eq_true, if_false, if_true]
        refine ⟨hc, hev, s0, s1, s', put_self ho _, by omega, q3 hd, fun h => by simp at h, rfl, ?_⟩
        have q6 := q1.other (k := j) (T' := upd x.T j (.wa set true)) (q' := S.qn) (M' := fun i => i < n ∧ x.must j set bg i) (fun i hi => ⟨upd_ne _ _ hi, rfl⟩) (Int.le_refl _) (fun _ h => h) (fun ⟨u, hu⟩ => absurd hu (nT u))
        exact ⟨q6.seen, fun i hi hm => q6.ah i hi ⟨hi, hm⟩⟩
    · have hM : (x.wstep k set bg (decide (2 ≤ s'.st)) (n - s'.pos)).M j = x.M j := upd_ne _ _ e
      exact (h.th j hj).other e (fun _ _ => rfl) (fun _ _ => rfl) (fops_ho ho rfl e) (fun i hi => upd_ne _ _ hi) (upd_ne _ _ e) (fun i hi => by rw [hM] at hi; exact hi) (Int.le_refl _) (fun ⟨u, hu⟩ => absurd hu (nT u))
  · have := (q1.ah j hj ⟨hj, hm⟩).2.1
    have := q2 (by simpa using hd)
    omega
  · rcases q4 with q4 | ⟨v, hv⟩
    · exact .inl (by rw [hR]; exact q4)
    · exact .inr ⟨s.pos, v, hp, hv⟩
end
end Go.Lf

namespace Go.Proofs.YtldjlcdccnnogaaGreat
open Go.RowKit Go.Lf
def FOpL (g : Nat) : OpLies FOp where
  at_ w b o := match o with
    | .en t i live => EntAt w b g t i live
    | .wa t s => WaitAt w b g t s
  keep := by
    rintro w w' b o S h hk hn
    cases o with
    | en => exact hk.at h hn
    | wa => exact hk.at h hn
  lt := by
    rintro w b o h
    cases o with
    | en => exact lt_of_block h
    | wa => exact lt_of_block h
def FSyL (g nb bb mb : Nat) : Lies FSy where
  lie w A S := ∃ F, FSys w g nb bb mb F ((0 : Nat) : Int) S.nums S.beg S.ws S.log ∧ ∀ k, A k ↔ F k ∨ k = g ∨ k = nb ∨ k = bb
  keep := fun ⟨F, h, hf⟩ hk hn => ⟨F, h.keep hk (fun k hF => hn k ((hf k).2 (.inl hF))) (hn _ ((hf _).2 (.inr (.inl rfl)))) (hn _ ((hf _).2 (.inr (.inr (.inl rfl))))) (hn _ ((hf _).2 (.inr (.inr (.inr rfl))))), hf⟩
  lt := fun ⟨F, h, hf⟩ k hA => by
    rcases (hf k).1 hA with e | e | e | e
    · exact h.mem.lt k e
    · subst e; exact lt_of_block h.eng.head
    · subst e; exact lt_of_block h.eng.hnums
    · subst e; exact lt_of_block h.eng.hbeg
abbrev FLies (g nb bb mb : Nat) : Lies (FSy × List FOp × List Nat) := (FSyL g nb bb mb).objs (FOpL g)
def prHO_full (g n : Nat) : Obj := .cells #[heldV_full g, .int .u8 1, .int .i64 n] 142 (0, 0)
def prEO_full (b : Nat) : Obj := .cells #[enV_full b] 171 (0, 0)
def prWO_full (b : Nat) : Obj := .cells #[waV_full b] 172 (0, 0)
def FJr (p g n : Nat) (s : (FSy × List FOp × List Nat) × List (Nat × Obj)) (x : RX) : Prop :=
  ∃ oi, FX n s.1.1 s.1.2.1 oi x ∧ s.1.2.2.length = s.1.2.1.length ∧ (p, prHO_full g n) ∈ s.2 ∧ BoxJ n s.2 (fun k => s.1.2.2[oi k]?) prEO_full prWO_full x
def PrFL (p g nb bb mb n : Nat) : Lies RX := ((FLies g nb bb mb).consts).rel (FJr p g n)
section
variable {p g nb bb mb n : Nat} {w : World} {A : Nat → Prop} {x : RX}
theorem fbl_app {l : List Nat} {i b c : Nat} (h : l[i]? = some b) : (l ++ [c])[i]? = some b := by
  rw [List.getElem?_append_left (List.getElem?_eq_some_iff.1 h).1]; exact h
theorem prf_engine (h : (PrFL p g nb bb mb n).lie w A x) : Calls Tryz.prog 61 #[pb p] w fun e w' => e = .returned (.int .u8 1) ∧ Keep Nil w w' := by
  obtain ⟨⟨⟨S, ops, bl⟩, cs⟩, ⟨A0, hE, hcs, hA⟩, oi, hx, hl, hp, hb⟩ := h
  refine (prkind_ok (n := n) (hcs _ hp).1).mono ?_
  rintro e w' ⟨rfl, rfl⟩
  exact ⟨rfl, Keep.refl _ _⟩
theorem prf_enter (hn : n ≤ 6) (k : Nat) (v : Int) (h : (PrFL p g nb bb mb n).lie w A x) (hK : x.K ≤ 900) (hk : k < n) (hT : x.T k = .idle) (v0 : 0 ≤ v) (v1 : v < 64) :
    Calls Tryz.prog 60 #[pb p, .int .i64 k, .int .i64 k, .int .i64 v] w fun e w' => ∃ b, e = .returned (.tuple #[pb b, .int .i64 0]) ∧ (PrFL p g nb bb mb n).To w A (x.enter k v b) w' := by
  obtain ⟨⟨⟨S, ops, bl⟩, cs⟩, ⟨A0, hE, hcs, hA⟩, oi, hx, hl, hp, hb⟩ := h
  have hc := hx.th k hk
  unfold FTh at hc
  rw [hT] at hc
  simp only at hc hl hp hb hx
  obtain ⟨q0, q1, -⟩ := hx.q k hk
  have hq := hx.num hk
  refine (pren_full (g := g) (hcs _ hp).1 k v hk (by omega) (Q := fun eb w1 => (FLies g nb bb mb).To w A0 (⟨S.nums, S.beg.set k true, S.ws, S.log⟩, ops ++ [.en k k true], bl ++ [eb]) w1) ?_).mono ?_
  · intro w1 k1
    obtain ⟨F0, hP⟩ := (FLies g nb bb mb).keep hE k1 (fun _ _ h => h)
    change ObjsAt _ _ _ _ S ops bl _ at hP
    obtain ⟨F, hS, hf⟩ := hP.sys
    refine (fenter_ok hS v (t := (k : Int)) (by omega) (by omega) v0 v1 (S.qn k) hq q0 hc.2 hc.1).mono ?_
    rintro e w' ⟨rfl, r1, r2, r3, r4⟩
    exact ⟨_, rfl, Lies.To.pre k1 (hP.new (s' := ⟨S.nums, S.beg.set k true, S.ws, S.log⟩) (o := .en k k true) ⟨F, r1, hf⟩ r2 (r3.mono fun k _ e => (hf k).2 (.inr (.inr (.inr e)))))⟩
  · rintro e w' ⟨eb, w1, ht, rfl, hbx, k2⟩
    refine ⟨_, rfl, Lies.rel_to (Lies.consts_new hE hcs hA ht rfl hbx k2) ⟨upd oi k ops.length, hx.enter hn hk hT v0 v1 _, by simp [hl], List.mem_append_left _ hp, ?_⟩⟩
    refine hb.turn (k := k) (fun i hi => upd_ne _ _ hi) (fun i hi => upd_ne _ _ hi) (fun i hi b hb' => ?_) (fun c hc => List.mem_append_left _ hc) (fun u hu => ⟨eb, ?_, ?_⟩) (fun set bg hu => ?_)
    · simp only [upd_ne _ _ hi]; exact fbl_app hb'
    · simp only [upd_self]; rw [← hl]; simp
    · simp only [RX.enter, upd_self]; exact List.mem_append_right _ (List.mem_singleton.2 rfl)
    · simp only [RX.enter, upd_self] at hu; cases hu
theorem prf_exit (hn : n ≤ 6) (k : Nat) (v : Int) (h : (PrFL p g nb bb mb n).lie w A x) (hK : x.K ≤ 900) (hk : k < n) (hT : x.T k = .inn v) :
    Calls Tryz.prog 39 #[pb p, .int .i64 k, .int .i64 k] w fun e w' => ∃ pc e0, e = .returned (.tuple #[.int .u8 pc, .int .i64 e0]) ∧ pc ≠ 0 ∧ pc ≠ 1 ∧ (PrFL p g nb bb mb n).To w A (x.exit k) w' := by
  obtain ⟨⟨⟨S, ops, bl⟩, cs⟩, ⟨A0, hE, hcs, hA⟩, oi, hx, hl, hp, hb⟩ := h
  simp only at hl hp hb hx
  obtain ⟨hod, hx'⟩ := hx.exit hn hk hT
  obtain ⟨q0, q1, hy⟩ := hx.q k hk
  have hq := hx.num hk
  have ll := hx.llog
  have ln := hx.ln
  refine (prx_full (g := g) (hcs _ hp).1 k hk (by omega) (pc := 13) (Q := fun w1 => (FLies g nb bb mb).To w A0 (S.adv k (S.qn k) S.beg, ops, bl) w1) ?_).mono ?_
  · intro w1 k1
    obtain ⟨F0, hP⟩ := (FLies g nb bb mb).keep hE k1 (fun _ _ h => h)
    change ObjsAt _ _ _ _ S ops bl _ at hP
    obtain ⟨F, hS, hf⟩ := hP.sys
    have e0 : (((0 : Nat) : Int) + (k : Int)) = (k : Int) := by omega
    have := fexit_ok hS (S.qn k) (S.qn k) (t := (k : Int)) (i := k) (by omega) (by omega) hq q0 (by omega) hod (by omega) (by omega) (by omega) (by rw [e0, Int.toNat_natCast]; exact hy) (by omega)
    rw [e0, Int.toNat_natCast] at this
    refine this.mono ?_
    rintro e w' ⟨rfl, F', r1, r2, r3⟩
    refine ⟨rfl, Lies.To.pre k1 (hP.none (s' := S.adv k (S.qn k) S.beg) ⟨F', r1, fun _ => Iff.rfl⟩ (r2.mono fun k _ e => ?_) (fun k hk => ?_))⟩
    · rw [hf]
      rcases e with e | e | e
      · exact .inl e
      · exact .inr (.inr (.inl e))
      · exact .inr (.inr (.inr e))
    · rw [hf]
      rcases hk with e | e
      · exact (r3 k e).elim (fun e => .inl (.inl e)) .inr
      · exact .inl (.inr e)
  · rintro e w' ⟨rfl, ht⟩
    refine ⟨_, _, rfl, by decide, by decide, Lies.rel_to (Lies.consts_turn hE hcs hA ht) ⟨oi, hx', hl, hp, ?_⟩⟩
    exact hb.turn (k := k) (fun i hi => upd_ne _ _ hi) (fun i hi => rfl) (fun i hi b hb' => hb') (fun c hc => hc) (fun u hu => by simp only [RX.exit, upd_self] at hu; cases hu) (fun set bg hu => by simp only [RX.exit, upd_self] at hu; cases hu)
theorem prf_wait (hn : n ≤ 6) (k : Nat) (set : Int) (h : (PrFL p g nb bb mb n).lie w A x) (hK : x.K ≤ 900) (hk : k < n) (hT : x.T k = .idle) (s0 : 0 < set) (s1 : set < 18446744073709551616) :
    Calls Tryz.prog 62 #[pb p, .int .i64 k, .int .u64 set] w fun e w' => ∃ b, ∃ r ≤ n, e = .returned (.tuple #[pb b, .int .i64 0]) ∧ (PrFL p g nb bb mb n).To w A (x.wait k set r b) w' := by
  obtain ⟨⟨⟨S, ops, bl⟩, cs⟩, ⟨A0, hE, hcs, hA⟩, oi, hx, hl, hp, hb⟩ := h
  simp only at hl hp hb hx
  refine (prwa_full (g := g) (hcs _ hp).1 k set (Q := fun eb w1 => (FLies g nb bb mb).To w A0 (S, ops ++ [.wa k ⟨0, 0, 0⟩], bl ++ [eb]) w1) ?_).mono ?_
  · intro w1 k1
    obtain ⟨F0, hP⟩ := (FLies g nb bb mb).keep hE k1 (fun _ _ h => h)
    change ObjsAt _ _ _ _ S ops bl _ at hP
    refine (fwait_ok (g := g) (t := (k : Int)) (by omega) (by omega) set (by omega)).mono ?_
    rintro e w' ⟨rfl, q2, q3, q4⟩
    exact ⟨_, rfl, Lies.To.pre k1 (hP.new (o := .wa k ⟨0, 0, 0⟩) (s' := S) ((FSyL g nb bb mb).keep hP.sys q3 (fun _ _ h => h)) q2 (q3.mono fun _ _ h => h.elim))⟩
  · rintro e w' ⟨eb, w1, ht, rfl, hbx, k2⟩
    refine ⟨_, n, Nat.le_refl _, rfl, Lies.rel_to (Lies.consts_new hE hcs hA ht rfl hbx k2) ⟨upd oi k ops.length, hx.wait hn hk hT s0 s1 _, by simp [hl], List.mem_append_left _ hp, ?_⟩⟩
    refine hb.turn (k := k) (fun i hi => upd_ne _ _ hi) (fun i hi => upd_ne _ _ hi) (fun i hi b hb' => ?_) (fun c hc => List.mem_append_left _ hc) (fun u hu => ?_) (fun set bg hu => ⟨eb, ?_, ?_⟩)
    · simp only [upd_ne _ _ hi]; exact fbl_app hb'
    · simp only [RX.wait, upd_self] at hu; cases hu
    · simp only [upd_self]; rw [← hl]; simp
    · simp only [RX.wait, upd_self]; exact List.mem_append_right _ (List.mem_singleton.2 rfl)
theorem prf_enext (k : Nat) (v : Int) (h : (PrFL p g nb bb mb n).lie w A x) (hk : k < n) (hT : x.T k = .en v) :
    Calls Tryz.prog 34 #[pb (x.bx k)] w fun e w' => ∃ pc, e = .returned (.int .u8 pc) ∧ pc ≠ 0 ∧ Keep Nil w w' := by
  obtain ⟨⟨⟨S, ops, bl⟩, cs⟩, ⟨A0, ⟨F0, hP⟩, hcs, hA⟩, oi, hx, hl, hp, hb⟩ := h
  simp only at hl hp hb hx
  change ObjsAt _ _ _ _ S ops bl _ at hP
  have hc := hx.th k hk
  unfold FTh at hc
  rw [hT] at hc
  simp only at hc
  obtain ⟨v0, v1, hbg, hev, ho⟩ := hc
  obtain ⟨b, hb1, hb2⟩ := hb.en k v hk hT
  have hat : EntAt w b g (k : Int) k true := (hP.objs _ _ _ hb1 ho).1
  refine (prn_full (hcs _ hb2).1 (pc := 13) ((fent_next hat).mono ?_)).mono ?_
  · rintro e w' ⟨rfl, rfl⟩
    exact ⟨rfl, Keep.refl _ _⟩
  rintro e w' ⟨rfl, hk⟩
  exact ⟨_, rfl, by decide, hk⟩
theorem prf_wnext (k : Nat) (set : Int) (bg : Bool) (h : (PrFL p g nb bb mb n).lie w A x) (hk : k < n) (hT : x.T k = .wa set bg) :
    Calls Tryz.prog 35 #[pb (x.bx k)] w fun e w' => ∃ pc, e = .returned (.int .u8 pc) ∧ pc ≠ 0 ∧ Keep Nil w w' := by
  obtain ⟨⟨⟨S, ops, bl⟩, cs⟩, ⟨A0, ⟨F0, hP⟩, hcs, hA⟩, oi, hx, hl, hp, hb⟩ := h
  simp only at hl hp hb hx
  change ObjsAt _ _ _ _ S ops bl _ at hP
  have hc := hx.th k hk
  unfold FTh at hc
  rw [hT] at hc
  simp only at hc
  obtain ⟨hc, hev, s0, s1, s, ho, h3, -⟩ := hc
  obtain ⟨b, hb1, hb2⟩ := hb.wa k set bg hk hT
  have hat : WaitAt w b g (k : Int) s := (hP.objs _ _ _ hb1 ho).1
  refine (prwn_full (hcs _ hb2).1 (pc := 17) ((fwnext_live hat h3).mono ?_)).mono ?_
  · rintro e w' ⟨rfl, rfl⟩
    exact ⟨rfl, Keep.refl _ _⟩
  rintro e w' ⟨rfl, hk⟩
  exact ⟨_, rfl, by decide, hk⟩
theorem prf_estep (hn : n ≤ 6) (k : Nat) (v : Int) (h : (PrFL p g nb bb mb n).lie w A x) (hK : x.K ≤ 900) (hk : k < n) (hT : x.T k = .en v) :
    Calls Tryz.prog 36 #[pb (x.bx k)] w fun e w' => ∃ pc d, e = .returned (.tuple #[.int .u8 pc, .bool d]) ∧ pc ≠ 0 ∧ pc ≠ 1 ∧ (PrFL p g nb bb mb n).To w A (x.estep k v d) w' := by
  obtain ⟨⟨⟨S, ops, bl⟩, cs⟩, ⟨A0, hE, hcs, hA⟩, oi, hx, hl, hp, hb⟩ := h
  simp only at hl hp hb hx
  obtain ⟨ho, hx'⟩ := hx.estep hn hk hT
  obtain ⟨b, hb1, hb2⟩ := hb.en k v hk hT
  obtain ⟨q0, q1, hy⟩ := hx.q k hk
  have hq := hx.num hk
  have ll := hx.llog
  have ln := hx.ln
  refine (prs_full (hcs _ hb2).1 (pc := 13) (d := true) (Q := fun w1 => (FLies g nb bb mb).To w A0 (S.adv k (S.qn k) (S.beg.set k false), ops.set (oi k) (.en k k false), bl) w1) ?_).mono ?_
  · obtain ⟨F0, hP⟩ := hE
    change ObjsAt _ _ _ _ S ops bl _ at hP
    obtain ⟨F, hS, hf⟩ := hP.sys
    obtain ⟨hat, nF⟩ := hP.objs _ _ _ hb1 ho
    have nF' : ¬ (F b ∨ b = g ∨ b = nb ∨ b = bb) := fun e => nF ((hf b).2 e)
    have hat : EntAt w b g (k : Int) k true := hat
    have e0 : (((0 : Nat) : Int) + (k : Int)) = (k : Int) := by omega
    have := fent_step hS hat (fun e => nF' (.inl e)) (S.qn k) (S.qn k) (by omega) (by omega) hq q0 (by omega) (by omega) (by omega) (by omega) (by rw [e0, Int.toNat_natCast]; exact hy) (by omega)
    rw [e0, Int.toNat_natCast] at this
    refine this.mono ?_
    rintro e w' ⟨rfl, F', r1, r2, r3, r4, r5⟩
    refine ⟨rfl, hP.one (s' := S.adv k (S.qn k) (S.beg.set k false)) (o' := .en k k false) hb1 ⟨F', r1, fun _ => Iff.rfl⟩ r2 (r3.mono fun k _ e => ?_) (fun k hk => ?_) ?_⟩
    · rw [hf]
      rcases e with e | e | e | e
      · exact .inl (.inl e)
      · exact .inl (.inr (.inr (.inl e)))
      · exact .inl (.inr (.inr (.inr e)))
      · exact .inr e
    · rw [hf]
      rcases hk with e | e
      · exact (r4 k e).elim (fun e => .inl (.inl e)) .inr
      · exact .inl (.inr e)
    · exact fun e => e.elim r5 (fun e => nF' (.inr e))
  · rintro e w' ⟨rfl, ht⟩
    refine ⟨_, _, rfl, by decide, by decide, Lies.rel_to (Lies.consts_turn hE hcs hA ht) ⟨oi, hx', by simp [hl], hp, ?_⟩⟩
    refine hb.turn (k := k) (fun i hi => upd_ne _ _ hi) (fun i hi => rfl) (fun i hi b hb' => hb') (fun c hc => hc) (fun u hu => ⟨b, hb1, hb2⟩) (fun set bg hu => ?_)
    simp only [RX.estep, upd_self] at hu
    split at hu <;> cases hu
theorem prf_wstep (hn : n ≤ 6) (k : Nat) (set : Int) (bg : Bool) (h : (PrFL p g nb bb mb n).lie w A x) (hK : x.K ≤ 900) (hk : k < n) (hT : x.T k = .wa set bg) :
    Calls Tryz.prog 38 #[pb (x.bx k)] w fun e w' => ∃ pc d r, e = .returned (.tuple #[.int .u8 pc, .bool d]) ∧ pc ≠ 0 ∧ pc ≠ 1 ∧ (PrFL p g nb bb mb n).To w A (x.wstep k set bg d r) w' ∧
      (d = true → ∀ j, j < n → ¬ x.must k set bg j) ∧ r ≤ n ∧
      (r + 1 ≤ x.R k ∨ (∃ j v, j < n ∧ x.T j = .inn v ∧ true = true) ∨ ∃ j s, j < n ∧ j ≠ k ∧ x.T j = .wa s true) := by
  obtain ⟨⟨⟨S, ops, bl⟩, cs⟩, ⟨A0, hE, hcs, hA⟩, oi, hx, hl, hp, hb⟩ := h
  simp only at hl hp hb hx
  obtain ⟨s, ho, h3, hpn, r, hx', hd, hr, hr2⟩ := hx.wstep hn hk hT
  obtain ⟨b, hb1, hb2⟩ := hb.wa k set bg hk hT
  obtain ⟨q0, q1, hy⟩ := hx.q s.pos hpn
  have ll := hx.llog
  have ln := hx.ln
  refine (prws_full (hcs _ hb2).1 (pc := 17) (d := decide (2 ≤ (s.step n (S.qn s.pos)).st)) (Q := fun w1 => (FLies g nb bb mb).To w A0 (S.look k s.pos, ops.set (oi k) (.wa k (s.step n (S.qn s.pos))), bl) w1) ?_).mono ?_
  · obtain ⟨F0, hP⟩ := hE
    change ObjsAt _ _ _ _ S ops bl _ at hP
    obtain ⟨F, hS, hf⟩ := hP.sys
    obtain ⟨hat, nF⟩ := hP.objs _ _ _ hb1 ho
    have nF' : ¬ (F b ∨ b = g ∨ b = nb ∨ b = bb) := fun e => nF ((hf b).2 e)
    have hat : WaitAt w b g (k : Int) s := hat
    have e0 : (((0 : Nat) : Int) + (s.pos : Int)) = (s.pos : Int) := by omega
    have := fwait_step hS hat (fun e => nF' (.inl e)) (by omega) h3 (S.qn s.pos) q0 (by omega) (by omega) (by omega) (by omega) (by rw [e0, Int.toNat_natCast]; exact hy) (by omega)
    rw [e0, ln] at this
    refine this.mono ?_
    rintro e w' ⟨rfl, F', r1, r2, r3, r4, r5⟩
    refine ⟨rfl, hP.one (s' := S.look k s.pos) (o' := .wa k (s.step n (S.qn s.pos))) hb1 ⟨F', r1, fun _ => Iff.rfl⟩ r2 (r3.mono fun k _ e => ?_) (fun k hk => ?_) ?_⟩
    · rw [hf]
      exact e.elim (fun e => .inl (.inl e)) .inr
    · rw [hf]
      rcases hk with e | e
      · exact (r4 k e).elim (fun e => .inl (.inl e)) .inr
      · exact .inl (.inr e)
    · exact fun e => e.elim r5 (fun e => nF' (.inr e))
  · rintro e w' ⟨rfl, ht⟩
    refine ⟨_, _, r, rfl, by decide, by decide, Lies.rel_to (Lies.consts_turn hE hcs hA ht) ⟨oi, hx', by simp [hl], hp, ?_⟩, hd, hr, hr2.elim .inl (fun ⟨j, v, h1, h2⟩ => .inr (.inl ⟨j, v, h1, h2, rfl⟩))⟩
    refine hb.turn (k := k) (fun i hi => upd_ne _ _ hi) (fun i hi => rfl) (fun i hi b hb' => hb') (fun c hc => hc) (fun u hu => ?_) (fun set bg hu => ⟨b, hb1, hb2⟩)
    simp only [RX.wstep, upd_self] at hu
    split at hu <;> cases hu
/-- full as a rig's engine. -/
def prF (p g nb bb mb n : Nat) (hn : n ≤ 6) : PrW n where
  P := PrFL p g nb bb mb n
  p := p
  kind := 1
  conc := fun _ _ => true
  bnd := fun _ => n
  k0 := .inl rfl
  engine := prf_engine
  enter := prf_enter hn
  exit := prf_exit hn
  wait := prf_wait hn
  enext := prf_enext
  wnext := prf_wnext
  estep := prf_estep hn
  wstep := prf_wstep hn
end
end Go.Proofs.YtldjlcdccnnogaaGreat
