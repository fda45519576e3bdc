/- ranges: one locking after another: what it finds, in how many steps. Plain. -/
import Derived.Test.YtmafdjhjmnghcaaGreatRngP
set_option linter.unusedVariables false
set_option linter.unusedSimpArgs false
namespace Go.Lf
abbrev Spn := Int × Int
/-- The table of entries in the words. -/
structure TabE (lk T : Nat) (ws : List Int) (tb : List (Option Spn)) : Prop where
  len : tb.length = lk
  no : ∀ k : Nat, tb[k]? = some none → ws[T + 3 * k]? = some 0
  yes : ∀ (k : Nat) (sp : Spn), tb[k]? = some (some sp) → ws[T + 3 * k]? = some 1 ∧ ws[T + 3 * k + 1]? = some sp.1 ∧ ws[T + 3 * k + 2]? = some sp.2
  room : T + 3 * lk ≤ ws.length
/-- Whether two ranges have a key in common, as the program asks: a's bounds against b's. -/
def ovl (a b : Spn) : Bool := decide (a.1 ≤ b.2) && decide (b.1 ≤ a.2)
/-- A look through the entries from k on: the number of steps, the first free entry, whether there is a conflict. -/
def scanP (x : Spn) : Nat → Int → List (Option Spn) → Nat × Int × Bool
  | _, fr, [] => (0, fr, false)
  | k, fr, none :: r => ((scanP x (k + 1) (if fr < 0 then k else fr) r).1 + 1, (scanP x (k + 1) (if fr < 0 then k else fr) r).2)
  | k, fr, some sp :: r => if ovl sp x = true then (3, fr, true) else ((scanP x (k + 1) fr r).1 + 3, (scanP x (k + 1) fr r).2)
/-- n steps from a state and words to others. -/
inductive KS.Reach (lk : Int) (M T : Nat) : Nat → KS → List Int → KS → List Int → Prop
  | zero (s : KS) (ws : List Int) : KS.Reach lk M T 0 s ws s ws
  | step {n : Nat} {s s' : KS} {ws ws' : List Int} (x : Int) (hn : s.next ≠ 0) (hx : ws[s.at M T]? = some x) (h : KS.Reach lk M T n (s.step lk x) (s.ws M T ws x) s' ws') : KS.Reach lk M T (n + 1) s ws s' ws'
section
variable {lk : Int} {M T : Nat}
theorem KS.Reach.trans {n m : Nat} {s s1 s2 : KS} {ws ws1 ws2 : List Int} (h : KS.Reach lk M T n s ws s1 ws1) (h2 : KS.Reach lk M T m s1 ws1 s2 ws2) : KS.Reach lk M T (n + m) s ws s2 ws2 := by
  induction h with
  | zero s ws => rw [Nat.zero_add]; exact h2
  | step x hn hx h ih => rw [Nat.succ_add]; exact .step x hn hx (ih h2)
theorem KS.Reach.one {s : KS} {ws : List Int} (x : Int) (hn : s.next ≠ 0) (hx : ws[s.at M T]? = some x) : KS.Reach lk M T 1 s ws (s.step lk x) (s.ws M T ws x) := .step x hn hx (.zero _ _)
/-- What stays the same in an attempt. -/
structure KS.Same (s s' : KS) : Prop where
  th : s'.th = s.th
  lo : s'.lo = s.lo
  hi : s'.hi = s.hi
  tries : s'.tries = s.tries
  err : s'.err = s.err
theorem KS.Same.refl (s : KS) : KS.Same s s := ⟨rfl, rfl, rfl, rfl, rfl⟩
theorem KS.Same.trans {a b c : KS} (h : KS.Same a b) (h2 : KS.Same b c) : KS.Same a c := ⟨h2.th.trans h.th, h2.lo.trans h.lo, h2.hi.trans h.hi, h2.tries.trans h.tries, h2.err.trans h.err⟩
/-- Behind the look: a conflict, or the first free entry. -/
structure KS.Looked (s s1 : KS) (fr : Int) (cf : Bool) : Prop where
  same : KS.Same s s1
  bad : cf = true ∨ fr < 0 → s1.next = 3 ∧ s1.conf = true ∧ s1.fails = s.fails + 1
  good : ¬ (cf = true ∨ fr < 0) → s1.next = 40 ∧ s1.conf = s.conf ∧ s1.fails = s.fails ∧ s1.free = fr
theorem KS.Looked.of {s s0 s1 : KS} {fr : Int} {cf : Bool} (h : KS.Looked s0 s1 fr cf) (h0 : KS.Same s s0) (hf : s0.fails = s.fails) (hc : s0.conf = s.conf) : KS.Looked s s1 fr cf :=
  ⟨h0.trans h.same, fun e => by have := h.bad e; rw [hf] at this; exact this, fun e => by have := h.good e; rw [hf, hc] at this; exact this⟩
theorem KS.ws_none {s : KS} {ws : List Int} {x : Int} (h : s.next = 37 ∨ s.next = 38 ∨ s.next = 39) : s.ws M T ws x = ws := by
  have : s.put x = none := by unfold KS.put; rw [if_neg (by omega), if_neg (by omega), if_neg (by omega), if_neg (by omega), if_neg (by omega)]
  unfold KS.ws; rw [this]
theorem KS.at37 {s : KS} (h : s.next = 37) : s.at M T = T + 3 * s.entry.toNat := by unfold KS.at; rw [if_neg (by omega), if_pos h]
theorem KS.at38 {s : KS} (h : s.next = 38) : s.at M T = T + 3 * s.entry.toNat + 1 := by unfold KS.at; rw [if_neg (by omega), if_neg (by omega), if_pos h]
theorem KS.at39 {s : KS} (h : s.next = 39) : s.at M T = T + 3 * s.entry.toNat + 2 := by unfold KS.at; rw [if_neg (by omega), if_neg (by omega), if_neg (by omega), if_pos h]
theorem KS.act37_0 {s : KS} (h : s.next = 37) : s.act lk 0 = ({ s with free := if s.free < 0 then s.entry else s.free } : KS).follow lk := by unfold KS.act; rw [if_neg (by omega), if_pos h, if_pos rfl]
theorem KS.act37_1 {s : KS} {x : Int} (h : s.next = 37) (hx : x ≠ 0) : s.act lk x = (s, 38) := by unfold KS.act; rw [if_neg (by omega), if_pos h, if_neg hx]
theorem KS.act38 {s : KS} {x : Int} (h : s.next = 38) : s.act lk x = ({ s with low := x }, 39) := by unfold KS.act; rw [if_neg (by omega), if_neg (by omega), if_pos h]
theorem KS.act39 {s : KS} {x : Int} (h : s.next = 39) : s.act lk x = (if s.low ≤ s.hi ∧ s.lo ≤ x then s.clash else s.follow lk) := by unfold KS.act; rw [if_neg (by omega), if_neg (by omega), if_neg (by omega), if_pos h]
theorem scan_reach {n : Nat} {ws : List Int} {tb : List (Option Spn)} (ht : TabE n T ws tb) : ∀ (r : List (Option Spn)) (k : Nat) (s : KS), tb.drop k = r → r ≠ [] → s.next = 37 → s.entry = k →
    ∃ s1, KS.Reach n M T (scanP (s.lo, s.hi) k s.free r).1 s ws s1 ws ∧ KS.Looked s s1 (scanP (s.lo, s.hi) k s.free r).2.1 (scanP (s.lo, s.hi) k s.free r).2.2 := by
  -- what follows an entry without a conflict
  have fol : ∀ (r : List (Option Spn)) (k : Nat) (s : KS), tb.drop (k + 1) = r → s.entry = k → (∀ s0 : KS, r ≠ [] → s0.next = 37 → s0.entry = (k + 1 : Nat) →
        ∃ s1, KS.Reach n M T (scanP (s0.lo, s0.hi) (k + 1) s0.free r).1 s0 ws s1 ws ∧ KS.Looked s0 s1 (scanP (s0.lo, s0.hi) (k + 1) s0.free r).2.1 (scanP (s0.lo, s0.hi) (k + 1) s0.free r).2.2) →
      ∃ s1, KS.Reach n M T (scanP (s.lo, s.hi) (k + 1) s.free r).1 { (s.follow n).1 with next := (s.follow n).2 } ws s1 ws ∧ KS.Looked s s1 (scanP (s.lo, s.hi) (k + 1) s.free r).2.1 (scanP (s.lo, s.hi) (k + 1) s.free r).2.2 := by
    intro r k s hr he ih
    cases r with
    | nil =>
      have hk : n ≤ k + 1 := by have := List.drop_eq_nil_iff.1 hr; rw [ht.len] at this; exact this
      refine ⟨_, .zero _ _, ⟨?_, ?_, ?_⟩⟩
      · unfold KS.follow
        rw [if_neg (by omega)]
        split
        · exact ⟨rfl, rfl, rfl, rfl, rfl⟩
        · exact ⟨rfl, rfl, rfl, rfl, rfl⟩
      · intro hb
        have hb' : s.free < 0 := hb.elim (fun e => by cases e) id
        unfold KS.follow
        rw [if_neg (by omega), if_pos hb']
        exact ⟨rfl, rfl, rfl⟩
      · intro hb
        have hb' : ¬ s.free < 0 := fun e => hb (.inr e)
        unfold KS.follow
        rw [if_neg (by omega), if_neg hb']
        exact ⟨rfl, rfl, rfl, rfl⟩
    | cons o r =>
      have hk : k + 1 < n := by
        have h1 : (tb.drop (k + 1)).length = (o :: r).length := by rw [hr]
        rw [List.length_drop, ht.len] at h1
        simp at h1; omega
      have hfo : (s.follow n) = ({ s with entry := s.entry + 1 }, 37) := by unfold KS.follow; rw [if_pos (by omega)]
      rw [hfo]
      obtain ⟨s1, h1, h2⟩ := ih { s with entry := s.entry + 1, next := 37 } (by simp) rfl (by show s.entry + 1 = _; omega)
      exact ⟨s1, h1, h2.of ⟨rfl, rfl, rfl, rfl, rfl⟩ rfl rfl⟩
  intro r
  induction r with
  | nil => intro k s _ h; exact absurd rfl h
  | cons o r ih =>
    intro k s hr _ hn he
    have hko : tb[k]? = some o := by
      have : (tb.drop k)[0]? = some o := by rw [hr]; rfl
      rw [List.getElem?_drop, Nat.add_zero] at this
      exact this
    have hr2 : tb.drop (k + 1) = r := by rw [← List.tail_drop, hr]; rfl
    have hen : s.entry.toNat = k := by omega
    cases o with
    | none =>
      have hx : ws[s.at M T]? = some 0 := by rw [KS.at37 hn, hen]; exact ht.no k hko
      obtain ⟨s1, h1, h2⟩ := fol r k { s with free := if s.free < 0 then s.entry else s.free } hr2 he (fun s0 h1 h2 h3 => ih (k + 1) s0 hr2 h1 h2 h3)
      have e1 : s.step n 0 = { (({ s with free := if s.free < 0 then s.entry else s.free } : KS).follow n).1 with next := (({ s with free := if s.free < 0 then s.entry else s.free } : KS).follow n).2 } := by
        unfold KS.step; rw [KS.act37_0 hn]
      refine ⟨s1, ?_, ?_⟩
      · have := KS.Reach.one (lk := n) 0 (by omega) hx
        rw [KS.ws_none (.inl hn), e1] at this
        have h3 := this.trans h1
        rw [scanP, Nat.add_comm]
        rw [← he]
        exact h3
      · rw [scanP, ← he]
        exact h2.of ⟨rfl, rfl, rfl, rfl, rfl⟩ rfl rfl
    | some sp =>
      obtain ⟨y1, y2, y3⟩ := ht.yes k sp hko
      have hx : ws[s.at M T]? = some 1 := by rw [KS.at37 hn, hen]; exact y1
      have q1 := KS.Reach.one (lk := n) 1 (by omega) hx
      have e1 : s.step n 1 = { s with next := 38 } := by unfold KS.step; rw [KS.act37_1 hn (by decide)]
      rw [KS.ws_none (.inl hn), e1] at q1
      have q2 := KS.Reach.one (lk := n) (M := M) (T := T) (s := { s with next := 38 }) (ws := ws) sp.1 (by show (38 : Int) ≠ 0; decide) (by rw [KS.at38 rfl]; show ws[T + 3 * s.entry.toNat + 1]? = _; rw [hen]; exact y2)
      have e2 : ({ s with next := 38 } : KS).step n sp.1 = { s with low := sp.1, next := 39 } := by unfold KS.step; rw [KS.act38 rfl]
      rw [KS.ws_none (.inr (.inl rfl)), e2] at q2
      have q3 := KS.Reach.one (lk := n) (M := M) (T := T) (s := { s with low := sp.1, next := 39 }) (ws := ws) sp.2 (by show (39 : Int) ≠ 0; decide) (by rw [KS.at39 rfl]; show ws[T + 3 * s.entry.toNat + 2]? = _; rw [hen]; exact y3)
      rw [KS.ws_none (.inr (.inr rfl))] at q3
      have q := (q1.trans q2).trans q3
      by_cases hc : ovl sp (s.lo, s.hi) = true
      · have hc' : sp.1 ≤ s.hi ∧ s.lo ≤ sp.2 := by unfold ovl at hc; simpa using hc
        have e3 : ({ s with low := sp.1, next := 39 } : KS).step n sp.2 = { s with low := sp.1, fails := s.fails + 1, conf := true, next := 3 } := by
          unfold KS.step; rw [KS.act39 rfl, if_pos hc']; rfl
        rw [e3] at q
        rw [scanP, if_pos hc]
        exact ⟨_, q, ⟨⟨rfl, rfl, rfl, rfl, rfl⟩, fun _ => ⟨rfl, rfl, rfl⟩, fun e => absurd (.inl rfl) e⟩⟩
      · have hc' : ¬ (sp.1 ≤ s.hi ∧ s.lo ≤ sp.2) := by unfold ovl at hc; simpa using hc
        have e3 : ({ s with low := sp.1, next := 39 } : KS).step n sp.2 = { (({ s with low := sp.1, next := 39 } : KS).follow n).1 with next := (({ s with low := sp.1, next := 39 } : KS).follow n).2 } := by
          unfold KS.step; rw [KS.act39 rfl, if_neg hc']
        rw [e3] at q
        obtain ⟨s1, h1, h2⟩ := fol r k { s with low := sp.1, next := 39 } hr2 he (fun s0 h1 h2 h3 => ih (k + 1) s0 hr2 h1 h2 h3)
        rw [scanP, if_neg hc]
        refine ⟨s1, ?_, h2.of ⟨rfl, rfl, rfl, rfl, rfl⟩ rfl rfl⟩
        have := q.trans h1
        rw [Nat.add_comm] at this
        exact this
theorem set_at {l : List Int} {i j : Nat} {v y : Int} (h : l[j]? = some y) (hij : i ≠ j) : (l.set i v)[j]? = some y := by rw [List.getElem?_set_ne hij]; exact h
theorem set_me {l : List Int} {i : Nat} {v y : Int} (h : l[i]? = some y) : (l.set i v)[i]? = some v := by
  rw [List.getElem?_set_self (List.getElem?_eq_some_iff.1 h).1]
theorem TabE.master {n : Nat} {ws : List Int} {tb : List (Option Spn)} (h : TabE n T ws tb) (hMT : M < T) (v : Int) : TabE n T (ws.set M v) tb :=
  ⟨h.len, fun k hk => set_at (h.no k hk) (by omega), fun k sp hk => by
    obtain ⟨a, b, c⟩ := h.yes k sp hk
    exact ⟨set_at a (by omega), set_at b (by omega), set_at c (by omega)⟩, by rw [List.length_set]; exact h.room⟩
theorem KS.ws_some {s : KS} {ws : List Int} {x v : Int} (h : s.put x = some v) : s.ws M T ws x = ws.set (s.at M T) v := by unfold KS.ws; rw [h]
/-- An attempt up to the end of the look. -/
theorem attempt {n : Nat} {ws : List Int} {tb : List (Option Spn)} (ht : TabE n T ws tb) (hn : 1 ≤ n) (hMT : M < T) (hm : ws[M]? = some 0) (s : KS) (h2 : s.next = 2) :
    ∃ s1, KS.Reach n M T ((scanP (s.lo, s.hi) 0 (-1) tb).1 + 1) s ws s1 (ws.set M (s.th + 1)) ∧ KS.Same s s1 ∧
      ((scanP (s.lo, s.hi) 0 (-1) tb).2.2 = true ∨ (scanP (s.lo, s.hi) 0 (-1) tb).2.1 < 0 → s1.next = 3 ∧ s1.conf = true ∧ s1.fails = s.fails + 1) ∧
      (¬ ((scanP (s.lo, s.hi) 0 (-1) tb).2.2 = true ∨ (scanP (s.lo, s.hi) 0 (-1) tb).2.1 < 0) → s1.next = 40 ∧ s1.conf = false ∧ s1.fails = s.fails ∧ s1.free = (scanP (s.lo, s.hi) 0 (-1) tb).2.1) := by
  have hat : s.at M T = M := if_pos h2
  have q1 := KS.Reach.one (lk := n) (M := M) (T := T) (s := s) (ws := ws) 0 (by omega) (by rw [hat]; exact hm)
  have e1 : s.step n 0 = { s with entry := 0, free := -1, conf := false, next := 37 } := by unfold KS.step KS.act; rw [if_pos h2, if_pos rfl]
  have e2 : s.ws M T ws 0 = ws.set M (s.th + 1) := by rw [KS.ws_some (v := s.th + 1) (by unfold KS.put; rw [if_pos h2, if_pos rfl]), hat]
  rw [e1, e2] at q1
  have hne : tb ≠ [] := fun e => by have := ht.len; rw [e] at this; simp at this; omega
  obtain ⟨s1, r1, l1⟩ := scan_reach (M := M) (ht.master hMT (s.th + 1)) tb 0 { s with entry := 0, free := -1, conf := false, next := 37 } rfl hne rfl rfl
  refine ⟨s1, ?_, ⟨l1.same.th, l1.same.lo, l1.same.hi, l1.same.tries, l1.same.err⟩, l1.bad, l1.good⟩
  rw [Nat.add_comm]
  exact q1.trans r1
theorem set_back {l : List Int} {i : Nat} {v y : Int} (h : l[i]? = some y) : (l.set i v).set i y = l := by
  rw [List.set_set]
  obtain ⟨h1, h2⟩ := List.getElem?_eq_some_iff.1 h
  rw [← h2, List.set_getElem_self]
/-- As often as may be, a conflict is found. -/
theorem quiet_bad {n : Nat} {ws : List Int} {tb : List (Option Spn)} (ht : TabE n T ws tb) (hn : 1 ≤ n) (hMT : M < T) (hm : ws[M]? = some 0) (x : Spn) (hb : (scanP x 0 (-1) tb).2.2 = true ∨ (scanP x 0 (-1) tb).2.1 < 0) :
    ∀ (j : Nat) (s : KS), s.next = 2 → (s.lo, s.hi) = x → s.fails + (j + 1 : Nat) = s.tries → ∃ s', KS.Reach n M T ((j + 1) * ((scanP x 0 (-1) tb).1 + 2)) s ws s' ws ∧ s'.next = 0 ∧ s'.err = 11 := by
  intro j
  induction j with
  | zero =>
    intro s h2 hx hf
    subst hx
    obtain ⟨s1, r1, sm, hbad, -⟩ := attempt ht hn hMT hm s h2
    obtain ⟨b1, b2, b3⟩ := hbad hb
    have hat : s1.at M T = M := by unfold KS.at; rw [if_neg (by omega), if_neg (by omega), if_neg (by omega), if_neg (by omega), if_neg (by omega), if_neg (by omega), if_neg (by omega)]
    have q := KS.Reach.one (lk := n) (M := M) (T := T) (s := s1) (ws := ws.set M (s.th + 1)) (s.th + 1) (by omega) (by rw [hat]; exact set_me hm)
    have e1 : s1.step n (s.th + 1) = { s1 with err := 11, next := 0 } := by
      unfold KS.step KS.act
      rw [if_neg (by omega), if_neg (by omega), if_neg (by omega), if_neg (by omega), if_neg (by omega), if_neg (by omega), if_neg (by omega), if_pos b2]
      unfold KS.again
      rw [if_pos (by rw [b3, sm.tries]; omega)]
    have e2 : s1.ws M T (ws.set M (s.th + 1)) (s.th + 1) = ws := by
      rw [KS.ws_some (v := 0) (by unfold KS.put; rw [if_neg (by omega), if_neg (by omega), if_neg (by omega), if_neg (by omega), if_pos b1]), hat]
      exact set_back hm
    rw [e1, e2] at q
    refine ⟨{ s1 with err := 11, next := 0 }, ?_, rfl, rfl⟩
    have := r1.trans q
    rw [show (0 + 1) * ((scanP (s.lo, s.hi) 0 (-1) tb).1 + 2) = (scanP (s.lo, s.hi) 0 (-1) tb).1 + 1 + 1 by omega]
    exact this
  | succ j ih =>
    intro s h2 hx hf
    subst hx
    obtain ⟨s1, r1, sm, hbad, -⟩ := attempt ht hn hMT hm s h2
    obtain ⟨b1, b2, b3⟩ := hbad hb
    have hat : s1.at M T = M := by unfold KS.at; rw [if_neg (by omega), if_neg (by omega), if_neg (by omega), if_neg (by omega), if_neg (by omega), if_neg (by omega), if_neg (by omega)]
    have q := KS.Reach.one (lk := n) (M := M) (T := T) (s := s1) (ws := ws.set M (s.th + 1)) (s.th + 1) (by omega) (by rw [hat]; exact set_me hm)
    have e1 : s1.step n (s.th + 1) = { s1 with next := 2 } := by
      unfold KS.step KS.act
      rw [if_neg (by omega), if_neg (by omega), if_neg (by omega), if_neg (by omega), if_neg (by omega), if_neg (by omega), if_neg (by omega), if_pos b2]
      unfold KS.again
      rw [if_neg (by rw [b3, sm.tries]; omega)]
    have e2 : s1.ws M T (ws.set M (s.th + 1)) (s.th + 1) = ws := by
      rw [KS.ws_some (v := 0) (by unfold KS.put; rw [if_neg (by omega), if_neg (by omega), if_neg (by omega), if_neg (by omega), if_pos b1]), hat]
      exact set_back hm
    rw [e1, e2] at q
    obtain ⟨s', h1, h3, h4⟩ := ih { s1 with next := 2 } rfl (by show (s1.lo, s1.hi) = _; rw [sm.lo, sm.hi]) (by show s1.fails + _ = s1.tries; rw [b3, sm.tries]; omega)
    refine ⟨s', ?_, h3, h4⟩
    have := (r1.trans q).trans h1
    rw [show (j + 1 + 1) * ((scanP (s.lo, s.hi) 0 (-1) tb).1 + 2) = (scanP (s.lo, s.hi) 0 (-1) tb).1 + 1 + 1 + (j + 1) * ((scanP (s.lo, s.hi) 0 (-1) tb).1 + 2) by rw [Nat.add_mul (j + 1) 1]; omega]
    exact this
theorem scan_free {x : Spn} {tb : List (Option Spn)} : ∀ (r : List (Option Spn)) (k : Nat) (fr : Int), tb.drop k = r → (fr < 0 ∨ ∃ f : Nat, fr = f ∧ tb[f]? = some none) → (scanP x k fr r).2.1 < 0 ∨ ∃ f : Nat, (scanP x k fr r).2.1 = f ∧ tb[f]? = some none := by
  intro r
  induction r with
  | nil => intro k fr _ h; exact h
  | cons o r ih =>
    intro k fr hr hf
    have hko : tb[k]? = some o := by
      have : (tb.drop k)[0]? = some o := by rw [hr]; rfl
      rw [List.getElem?_drop, Nat.add_zero] at this
      exact this
    have hr2 : tb.drop (k + 1) = r := by rw [← List.tail_drop, hr]; rfl
    cases o with
    | none =>
      rw [scanP]
      refine ih (k + 1) _ hr2 ?_
      split
      · exact .inr ⟨k, rfl, hko⟩
      · exact hf
    | some sp =>
      rw [scanP]
      split
      · exact hf
      · exact ih (k + 1) _ hr2 hf
/-- An entry is taken. -/
theorem quiet_good {n : Nat} {ws : List Int} {tb : List (Option Spn)} (ht : TabE n T ws tb) (hn : 1 ≤ n) (hMT : M < T) (hm : ws[M]? = some 0) (s : KS) (h2 : s.next = 2) (hb : ¬ ((scanP (s.lo, s.hi) 0 (-1) tb).2.2 = true ∨ (scanP (s.lo, s.hi) 0 (-1) tb).2.1 < 0)) :
    ∃ (f : Nat) (s' : KS) (ws' : List Int), (scanP (s.lo, s.hi) 0 (-1) tb).2.1 = f ∧ tb[f]? = some none ∧ KS.Reach n M T ((scanP (s.lo, s.hi) 0 (-1) tb).1 + 5) s ws s' ws' ∧ s'.next = 0 ∧ s'.err = s.err ∧ s'.free = f ∧ s'.fails = s.fails ∧
      TabE n T ws' (tb.set f (some (s.lo, s.hi))) ∧ ws'[M]? = some 0 := by
  rcases scan_free (x := (s.lo, s.hi)) (tb := tb) tb 0 (-1) rfl (.inl (by decide)) with h | ⟨f, hf, hfn⟩
  · exact absurd (.inr h) hb
  obtain ⟨s1, r1, sm, -, hgood⟩ := attempt ht hn hMT hm s h2
  obtain ⟨g1, g2, g3, g4⟩ := hgood hb
  have hfl : f < n := by have := (List.getElem?_eq_some_iff.1 hfn).1; rw [ht.len] at this; exact this
  have hft : s1.free.toNat = f := by rw [g4, hf]; rfl
  have hroom := ht.room
  have hM := (List.getElem?_eq_some_iff.1 hm).1
  obtain ⟨W1, hW1⟩ : ∃ W1, W1 = ws.set M (s.th + 1) := ⟨_, rfl⟩
  rw [← hW1] at r1
  have l1 : W1.length = ws.length := by rw [hW1, List.length_set]
  -- the low end
  have at40 : s1.at M T = T + 3 * f + 1 := by unfold KS.at; rw [if_neg (by omega), if_neg (by omega), if_neg (by omega), if_neg (by omega), if_pos g1, hft]
  obtain ⟨x1, hx1⟩ : ∃ x, W1[T + 3 * f + 1]? = some x := ⟨_, List.getElem?_eq_getElem (by omega)⟩
  have q1 := KS.Reach.one (lk := n) (M := M) (T := T) (s := s1) (ws := W1) x1 (by omega) (by rw [at40]; exact hx1)
  have e1 : s1.step n x1 = { s1 with next := 41 } := by unfold KS.step KS.act; rw [if_neg (by omega), if_neg (by omega), if_neg (by omega), if_neg (by omega), if_pos g1]
  have w1 : s1.ws M T W1 x1 = W1.set (T + 3 * f + 1) s.lo := by rw [KS.ws_some (v := s1.lo) (by unfold KS.put; rw [if_neg (by omega), if_pos g1]), at40, sm.lo]
  rw [e1, w1] at q1
  -- the high end
  obtain ⟨W2, hW2⟩ : ∃ W2, W2 = W1.set (T + 3 * f + 1) s.lo := ⟨_, rfl⟩
  rw [← hW2] at q1
  have l2 : W2.length = ws.length := by rw [hW2, List.length_set, l1]
  have at41 : ({ s1 with next := 41 } : KS).at M T = T + 3 * f + 2 := by rw [← hft]; rfl
  obtain ⟨x2, hx2⟩ : ∃ x, W2[T + 3 * f + 2]? = some x := ⟨_, List.getElem?_eq_getElem (by omega)⟩
  have q2 := KS.Reach.one (lk := n) (M := M) (T := T) (s := { s1 with next := 41 }) (ws := W2) x2 (by show (41 : Int) ≠ 0; decide) (by rw [at41]; exact hx2)
  have e2 : ({ s1 with next := 41 } : KS).step n x2 = { s1 with next := 42 } := rfl
  have w2 : ({ s1 with next := 41 } : KS).ws M T W2 x2 = W2.set (T + 3 * f + 2) s.hi := by rw [KS.ws_some (v := s1.hi) rfl, at41, sm.hi]
  rw [e2, w2] at q2
  obtain ⟨W3, hW3⟩ : ∃ W3, W3 = W2.set (T + 3 * f + 2) s.hi := ⟨_, rfl⟩
  rw [← hW3] at q2
  have l3 : W3.length = ws.length := by rw [hW3, List.length_set, l2]
  -- used
  have at42 : ({ s1 with next := 42 } : KS).at M T = T + 3 * f := by rw [← hft]; rfl
  obtain ⟨x3, hx3⟩ : ∃ x, W3[T + 3 * f]? = some x := ⟨_, List.getElem?_eq_getElem (by omega)⟩
  have q3 := KS.Reach.one (lk := n) (M := M) (T := T) (s := { s1 with next := 42 }) (ws := W3) x3 (by show (42 : Int) ≠ 0; decide) (by rw [at42]; exact hx3)
  have e3 : ({ s1 with next := 42 } : KS).step n x3 = { s1 with next := 3 } := rfl
  have w3 : ({ s1 with next := 42 } : KS).ws M T W3 x3 = W3.set (T + 3 * f) 1 := by rw [KS.ws_some (v := 1) rfl, at42]
  rw [e3, w3] at q3
  obtain ⟨W4, hW4⟩ : ∃ W4, W4 = W3.set (T + 3 * f) 1 := ⟨_, rfl⟩
  rw [← hW4] at q3
  have l4 : W4.length = ws.length := by rw [hW4, List.length_set, l3]
  -- the master
  obtain ⟨x4, hx4⟩ : ∃ x, W4[M]? = some x := ⟨_, List.getElem?_eq_getElem (by omega)⟩
  have q4 := KS.Reach.one (lk := n) (M := M) (T := T) (s := { s1 with next := 3 }) (ws := W4) x4 (by show (3 : Int) ≠ 0; decide) hx4
  have e4 : ({ s1 with next := 3 } : KS).step n x4 = { s1 with next := 0 } := by
    have hc : ({ s1 with next := 3 } : KS).conf = false := g2
    unfold KS.step KS.act
    rw [if_neg (by show ¬ ((3 : Int) = 2); decide), if_neg (by show ¬ ((3 : Int) = 37); decide), if_neg (by show ¬ ((3 : Int) = 38); decide), if_neg (by show ¬ ((3 : Int) = 39); decide), if_neg (by show ¬ ((3 : Int) = 40); decide), if_neg (by show ¬ ((3 : Int) = 41); decide), if_neg (by show ¬ ((3 : Int) = 42); decide), if_neg (by rw [hc]; decide)]
  have w4 : ({ s1 with next := 3 } : KS).ws M T W4 x4 = W4.set M 0 := by rw [KS.ws_some (v := 0) rfl]; rfl
  rw [e4, w4] at q4
  have hall := (((r1.trans q1).trans q2).trans q3).trans q4
  have hin : ∀ {k : Nat} {y : Int}, ws[k]? = some y → k ≠ M → k ≠ T + 3 * f → k ≠ T + 3 * f + 1 → k ≠ T + 3 * f + 2 → (W4.set M 0)[k]? = some y := fun {k y} h a b c d => by
    rw [hW4, hW3, hW2, hW1]
    exact set_at (set_at (set_at (set_at (set_at h (Ne.symm a)) (Ne.symm c)) (Ne.symm d)) (Ne.symm b)) (Ne.symm a)
  refine ⟨f, _, _, hf, hfn, hall, rfl, sm.err, by show s1.free = _; rw [g4, hf], g3, ⟨by rw [List.length_set]; exact ht.len, fun k hk => ?_, fun k sp hk => ?_, by rw [List.length_set, l4]; exact hroom⟩, set_me hx4⟩
  · rw [List.getElem?_set] at hk
    split at hk
    · split at hk <;> cases hk
    · rename_i hne
      exact hin (ht.no k hk) (by omega) (by omega) (by omega) (by omega)
  · rw [List.getElem?_set] at hk
    split at hk
    · rename_i he
      subst he
      split at hk
      · cases hk
        have c0 : W4[T + 3 * f]? = some 1 := by rw [hW4]; exact set_me hx3
        have c1 : W4[T + 3 * f + 1]? = some s.lo := by rw [hW4, hW3, hW2]; exact set_at (set_at (set_me hx1) (by omega)) (by omega)
        have c2 : W4[T + 3 * f + 2]? = some s.hi := by rw [hW4, hW3]; exact set_at (set_me hx2) (by omega)
        exact ⟨set_at c0 (by omega), set_at c1 (by omega), set_at c2 (by omega)⟩
      · cases hk
    · rename_i hne
      obtain ⟨a, b, d⟩ := ht.yes k sp hk
      exact ⟨hin a (by omega) (by omega) (by omega) (by omega), hin b (by omega) (by omega) (by omega) (by omega), hin d (by omega) (by omega) (by omega) (by omega)⟩
/-- An entry is given free. -/
theorem TabE.drop {n : Nat} {ws : List Int} {tb : List (Option Spn)} (h : TabE n T ws tb) {k : Nat} (hk : k < n) : TabE n T (ws.set (T + 3 * k) 0) (tb.set k none) := by
  have hroom := h.room
  refine ⟨by rw [List.length_set]; exact h.len, fun j hj => ?_, fun j sp hj => ?_, by rw [List.length_set]; exact hroom⟩
  · rw [List.getElem?_set] at hj
    split at hj
    · rename_i e; subst e
      rw [List.getElem?_set_self (by omega)]
    · rename_i e
      exact set_at (h.no j hj) (by omega)
  · rw [List.getElem?_set] at hj
    split at hj
    · split at hj <;> cases hj
    · rename_i e
      obtain ⟨a, b, c⟩ := h.yes j sp hj
      exact ⟨set_at a (by omega), set_at b (by omega), set_at c (by omega)⟩
/-- The first n entries' part of a look. -/
theorem scan_snoc {x : Spn} {tb : List (Option Spn)} : ∀ (r : List (Option Spn)) (k : Nat) (fr : Int), (scanP x k fr r).1 ≤ 3 * r.length := by
  intro r
  induction r with
  | nil => intro k fr; exact Nat.zero_le _
  | cons o r ih =>
    intro k fr
    cases o with
    | none => rw [scanP]; have := ih (k + 1) (if fr < 0 then k else fr); simp only [List.length_cons]; omega
    | some sp =>
      rw [scanP]
      split
      · simp only [List.length_cons]; omega
      · have := ih (k + 1) fr; simp only [List.length_cons]; omega
end
end Go.Lf
