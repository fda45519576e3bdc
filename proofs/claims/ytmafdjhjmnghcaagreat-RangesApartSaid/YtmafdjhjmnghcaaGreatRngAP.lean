/- ranges: threads that lock and unlock step by step. Plain. -/
import Derived.Test.YtmafdjhjmnghcaaGreatRngQP
set_option linter.unusedVariables false
set_option linter.unusedSimpArgs false
namespace Go.Lf
open Go.RowKit
/-- A function with one value changed. -/
def fup {α : Type} (f : Nat → α) (k : Nat) (v : α) (j : Nat) : α := if j = k then v else f j
theorem fup_me {α : Type} {f : Nat → α} {k : Nat} {v : α} : fup f k v k = v := if_pos rfl
theorem fup_ne {α : Type} {f : Nat → α} {k j : Nat} {v : α} (h : j ≠ k) : fup f k v j = f j := if_neg h
theorem fup_same {α : Type} {f : Nat → α} {k : Nat} : fup f k (f k) = f := by
  funext j
  unfold fup
  split
  · rename_i h; rw [h]
  · rfl
/-- The entry that a thread claims. -/
def clm (o : Option KS) (e : Int) : Option Int :=
  if 0 ≤ e then some e else match o with
    | some s => if s.next = 3 ∧ s.conf = false then some s.free else none
    | none => none
/-- A locking that has the latch. -/
inductive LT (T : Nat) (ws : List Int) (tb : List (Option Spn)) (s : KS) : Prop
  | look (hc : s.conf = false) (hn : s.next = 37 ∨ s.next = 38 ∨ s.next = 39) (hp : ∀ (j : Nat) (sp : Spn), (j : Int) < s.entry → tb[j]? = some (some sp) → ovl sp (s.lo, s.hi) = false)
      (hf : 0 ≤ s.free → tb[s.free.toNat]? = some none) (hl : s.next = 39 → ∀ sp : Spn, tb[s.entry.toNat]? = some (some sp) → s.low = sp.1)
  | put (hc : s.conf = false) (hn : s.next = 40 ∨ s.next = 41 ∨ s.next = 42) (hp : ∀ (j : Nat) (sp : Spn), tb[j]? = some (some sp) → ovl sp (s.lo, s.hi) = false)
      (hf : tb[s.free.toNat]? = some none) (h1 : s.next ≠ 40 → ws[T + 3 * s.free.toNat + 1]? = some s.lo) (h2 : s.next = 42 → ws[T + 3 * s.free.toNat + 2]? = some s.hi)
  | done (hn : s.next = 3)
structure Wt (lk T : Nat) (tr f : Int) (ws : List Int) (tb : List (Option Spn)) (hd : Option Nat) (k : Nat) (x : Spn) (s : KS) : Prop where
  th : s.th = k
  sp : (s.lo, s.hi) = x
  err : s.err = 0
  fl : s.fails ≤ f
  tries : s.tries = tr
  good : s.good lk
  at_ : s.next = 2 ∨ (hd = some k ∧ LT T ws tb s)
def msw (hd : Option Nat) : Int := match hd with | none => 0 | some h => (h : Int) + 1
structure RInv (lk M T : Nat) (tr f : Int) (ws : List Int) (K : Nat → Option KS) (own : Nat → Spn) (en : Nat → Int) (tb : List (Option Spn)) (hd : Option Nat) : Prop where
  tab : TabE lk T ws tb
  ap : ∀ (i j : Nat) (a b : Spn), i ≠ j → tb[i]? = some (some a) → tb[j]? = some (some b) → ovl a b = false
  ms : ws[M]? = some (msw hd)
  th : ∀ k s, K k = some s → en k < 0 → Wt lk T tr f ws tb hd k (own k) s
  cl : ∀ k j, clm (K k) (en k) = some j → ∃ i : Nat, j = i ∧ tb[i]? = some (some (own k))
  un : ∀ k k' j, clm (K k) (en k) = some j → clm (K k') (en k') = some j → k = k'
section
variable {lk M T : Nat} {tr f : Int} {ws ws' : List Int} {K : Nat → Option KS} {own : Nat → Spn} {en : Nat → Int} {tb tb' : List (Option Spn)} {hd hd' : Option Nat} {k : Nat} {s : KS}
theorem ovl_symm (a b : Spn) : ovl a b = ovl b a := by unfold ovl; rw [Bool.and_comm]
/-- Thread k does something. -/
theorem RInv.fup (h : RInv lk M T tr f ws K own en tb hd) (o : Option KS) (x : Spn) (e : Int)
    (tab : TabE lk T ws' tb') (ap : ∀ (i j : Nat) (a b : Spn), i ≠ j → tb'[i]? = some (some a) → tb'[j]? = some (some b) → ovl a b = false)
    (ms : ws'[M]? = some (msw hd'))
    (oth : ∀ j s, j ≠ k → hd = some j → LT T ws tb s → s.good lk → hd' = some j ∧ LT T ws' tb' s)
    (me : ∀ s, o = some s → e < 0 → Wt lk T tr (f + 1) ws' tb' hd' k x s)
    (clm1 : ∀ j, clm o e = some j → ∃ i : Nat, j = i ∧ tb'[i]? = some (some x))
    (clo : ∀ (j i : Nat) (sp : Spn), j ≠ k → clm (K j) (en j) = some (i : Int) → tb[i]? = some (some sp) → tb'[i]? = some (some sp))
    (un1 : ∀ j i, j ≠ k → clm o e = some i → clm (K j) (en j) = some i → False) :
    RInv lk M T tr (f + 1) ws' (fup K k o) (fup own k x) (fup en k e) tb' hd' := by
  refine ⟨tab, ap, ms, fun j s hs he => ?_, fun j i hc => ?_, fun j j' i h1 h2 => ?_⟩
  · by_cases hjk : j = k
    · subst hjk
      rw [fup_me] at hs he ⊢
      exact me s hs he
    · rw [fup_ne hjk] at hs he ⊢
      obtain ⟨a1, a2, a3, a4, a5, a6, a7⟩ := h.th j s hs he
      refine ⟨a1, a2, a3, by omega, a5, a6, a7.imp id fun q => oth j s hjk q.1 q.2 a6⟩
  · by_cases hjk : j = k
    · subst hjk
      rw [fup_me, fup_me] at hc
      rw [fup_me]
      exact clm1 i hc
    · rw [fup_ne hjk, fup_ne hjk] at hc
      rw [fup_ne hjk]
      obtain ⟨q, rfl, h2⟩ := h.cl j i hc
      exact ⟨q, rfl, clo j q _ hjk hc h2⟩
  · by_cases hjk : j = k
    · by_cases hjk' : j' = k
      · rw [hjk, hjk']
      · subst hjk
        rw [fup_me, fup_me] at h1
        rw [fup_ne hjk', fup_ne hjk'] at h2
        exact (un1 j' i hjk' h1 h2).elim
    · by_cases hjk' : j' = k
      · subst hjk'
        rw [fup_me, fup_me] at h2
        rw [fup_ne hjk, fup_ne hjk] at h1
        exact (un1 j i hjk h2 h1).elim
      · rw [fup_ne hjk, fup_ne hjk] at h1
        rw [fup_ne hjk', fup_ne hjk'] at h2
        exact h.un j j' i h1 h2
theorem clm_none {e : Int} (he : e < 0) : clm none e = none := by unfold clm; rw [if_neg (by omega)]
theorem clm_some {e : Int} (he : e < 0) (hn : ¬ (s.next = 3 ∧ s.conf = false)) : clm (some s) e = none := by unfold clm; rw [if_neg (by omega)]; exact if_neg hn
theorem clm_yes {e : Int} (he : e < 0) (hn : s.next = 3) (hc : s.conf = false) : clm (some s) e = some s.free := by unfold clm; rw [if_neg (by omega)]; exact if_pos ⟨hn, hc⟩
theorem clm_held {e : Int} {o : Option KS} (he : 0 ≤ e) : clm o e = some e := by unfold clm; rw [if_pos he]
/-- Nothing but thread k's own state is changed. -/
theorem RInv.still (h : RInv lk M T tr f ws K own en tb hd) (hk : K k = some s) (he : en k < 0) (s' : KS) (hw : Wt lk T tr (f + 1) ws tb hd k (own k) s') (hn : ¬ (s'.next = 3 ∧ s'.conf = false)) : RInv lk M T tr (f + 1) ws (Go.Lf.fup K k (some s')) own en tb hd := by
  have := h.fup (k := k) (ws' := ws) (tb' := tb) (hd' := hd) (some s') (own k) (en k) h.tab h.ap h.ms (fun j s _ h1 h2 _ => ⟨h1, h2⟩) (fun s2 e _ => by cases e; exact hw) (fun j hj => by rw [clm_some he hn] at hj; cases hj) (fun j i sp _ _ q => q) (fun j i _ hj _ => by rw [clm_some he hn] at hj; cases hj)
  rw [fup_same, fup_same] at this
  exact this
/-- A new locking. -/
theorem RInv.fresh (h : RInv lk M T tr f ws K own en tb hd) (hl : 1 ≤ lk) (hk : K k = none) (he : en k < 0) (x : Spn) (k0 : k < 64) (x0 : 0 ≤ x.1 ∧ x.1 < 18446744073709551616) (x1 : 0 ≤ x.2 ∧ x.2 < 18446744073709551616) (f0 : 0 ≤ f) :
    RInv lk M T tr f ws (Go.Lf.fup K k (some (KS.init k x.1 x.2 tr))) (Go.Lf.fup own k x) en tb hd := by
  have hg : (KS.init k x.1 x.2 tr).good lk := ⟨.inl rfl, fun e => (by rcases e with e | e | e <;> cases e), ⟨by show (-1 : Int) ≤ 0; omega, by show (0 : Int) < lk; omega⟩, fun e => (by rcases e with e | e | e <;> cases e), ⟨Int.le_refl 0, by show (0 : Int) < _; omega⟩, ⟨by show (0 : Int) ≤ k; omega, by show (k : Int) < 64; omega⟩, x0, x1⟩
  have hc : clm (some (KS.init k x.1 x.2 tr)) (en k) = none := clm_some he (by show ¬ ((2 : Int) = 3 ∧ _); omega)
  have hc0 : clm (K k) (en k) = none := by rw [hk]; exact clm_none he
  refine ⟨h.tab, h.ap, h.ms, fun j s hs hj => ?_, fun j i hj => ?_, fun j j' i h1 h2 => ?_⟩
  · by_cases hjk : j = k
    · subst hjk
      rw [fup_me] at hs ⊢
      cases hs
      exact ⟨rfl, rfl, rfl, f0, rfl, hg, .inl rfl⟩
    · rw [fup_ne hjk] at hs ⊢
      exact h.th j s hs hj
  · by_cases hjk : j = k
    · subst hjk
      rw [fup_me, hc] at hj
      cases hj
    · rw [fup_ne hjk] at hj ⊢
      exact h.cl j i hj
  · have g : ∀ j, clm (Go.Lf.fup K k (some (KS.init k x.1 x.2 tr)) j) (en j) = some i → clm (K j) (en j) = some i := fun j hj => by
      by_cases hjk : j = k
      · subst hjk; rw [fup_me, hc] at hj; cases hj
      · rw [fup_ne hjk] at hj; exact hj
    exact h.un j j' i (g j h1) (g j' h2)
/-- Thread k's range is given free. -/
theorem RInv.drop (h : RInv lk M T tr f ws K own en tb hd) (hMT : M < T) (e : Nat) (he : en k = e) :
    tb[e]? = some (some (own k)) ∧ e < lk ∧ ws[T + 3 * e]? = some 1 ∧ RInv lk M T tr (f + 1) (ws.set (T + 3 * e) 0) (Go.Lf.fup K k none) own (Go.Lf.fup en k (-1)) (tb.set e none) hd := by
  have hc : clm (K k) (en k) = some (e : Int) := by rw [he]; exact clm_held (by omega)
  obtain ⟨i, hi, htb⟩ := h.cl k e hc
  have hie : i = e := by omega
  subst hie
  have hlt : i < lk := by have := (List.getElem?_eq_some_iff.1 htb).1; rw [h.tab.len] at this; exact this
  have hn1 : clm none (-1) = none := clm_none (by decide)
  have keep : ∀ (j : Nat) (sp : Spn), (tb.set i none)[j]? = some (some sp) → tb[j]? = some (some sp) := fun j sp hj => by
    rw [List.getElem?_set] at hj
    split at hj
    · split at hj <;> cases hj
    · exact hj
  have keepn : ∀ (j : Nat), tb[j]? = some none → (tb.set i none)[j]? = some none := fun j hj => by
    rw [List.getElem?_set]
    split
    · rename_i e; subst e; rw [htb] at hj; cases hj
    · exact hj
  refine ⟨htb, hlt, (h.tab.yes i _ htb).1, ?_⟩
  have := h.fup (k := k) (ws' := ws.set (T + 3 * i) 0) (tb' := tb.set i none) (hd' := hd) none (own k) (-1) (h.tab.drop hlt) (fun a b x y hab h1 h2 => h.ap a b x y hab (keep a x h1) (keep b y h2)) (set_at h.ms (by omega))
    (fun j s _ h1 h2 hg => ⟨h1, by
      cases h2 with
      | look a b c d e => exact .look a b (fun j sp q1 q2 => c j sp q1 (keep j sp q2)) (fun q => keepn _ (d q)) (fun q sp q2 => e q sp (keep _ sp q2))
      | put a b c d e g => exact .put a b (fun j sp q => c j sp (keep j sp q)) (keepn _ d) (fun q => set_at (e q) (by omega)) (fun q => set_at (g q) (by omega))
      | done a => exact .done a⟩)
    (fun s q _ => by cases q) (fun j q => by rw [hn1] at q; cases q)
    (fun j q sp hjk hcj hq => by
      rw [List.getElem?_set]
      split
      · rename_i e; subst e
        exact absurd (h.un j k _ hcj hc) hjk
      · exact hq)
    (fun j q _ hq _ => by rw [hn1] at hq; cases hq)
  rw [fup_same (f := own)] at this
  exact this
/-- How many entries are used. -/
def cntS (tb : List (Option Spn)) : Nat := (tb.filterMap id).length
theorem cnt_take {tb : List (Option Spn)} {i : Nat} {x : Spn} (h : tb[i]? = some none) : cntS (tb.set i (some x)) = cntS tb + 1 := by
  induction tb generalizing i with
  | nil => cases h
  | cons o r ih =>
    cases i with
    | zero => cases h; simp [cntS]
    | succ i =>
      have := ih (i := i) (by simpa using h)
      cases o <;> simp [cntS] at this ⊢ <;> omega
theorem cnt_drop {tb : List (Option Spn)} {i : Nat} {x : Spn} (h : tb[i]? = some (some x)) : cntS (tb.set i none) + 1 = cntS tb := by
  induction tb generalizing i with
  | nil => cases h
  | cons o r ih =>
    cases i with
    | zero => cases h; simp [cntS]
    | succ i =>
      have := ih (i := i) (by simpa using h)
      cases o <;> simp [cntS] at this ⊢ <;> omega
theorem TabE.put (h : TabE lk T ws tb) {i : Nat} (hi : tb[i]? = some none) {q : Nat} (hq : q = 1 ∨ q = 2) (v : Int) : TabE lk T (ws.set (T + 3 * i + q) v) tb :=
  ⟨h.len, fun k hk => set_at (h.no k hk) (by omega), fun k sp hk => by
    have hne : k ≠ i := fun e => by subst e; rw [hi] at hk; cases hk
    obtain ⟨a, b, c⟩ := h.yes k sp hk
    exact ⟨set_at a (by omega), set_at b (by omega), set_at c (by omega)⟩, by rw [List.length_set]; exact h.room⟩
theorem TabE.take (h : TabE lk T ws tb) {i : Nat} (hi : tb[i]? = some none) {x : Spn} (h1 : ws[T + 3 * i + 1]? = some x.1) (h2 : ws[T + 3 * i + 2]? = some x.2) : TabE lk T (ws.set (T + 3 * i) 1) (tb.set i (some x)) := by
  have hlt : i < lk := by have := (List.getElem?_eq_some_iff.1 hi).1; rw [h.len] at this; exact this
  have hr := h.room
  refine ⟨by rw [List.length_set]; exact h.len, fun k hk => ?_, fun k sp hk => ?_, by rw [List.length_set]; exact hr⟩
  · rw [List.getElem?_set] at hk
    split at hk
    · split at hk <;> cases hk
    · exact set_at (h.no k hk) (by omega)
  · rw [List.getElem?_set] at hk
    split at hk
    · rename_i e
      subst e
      split at hk
      · cases hk
        exact ⟨set_me (y := ws[T + 3 * i]'(by omega)) (List.getElem?_eq_getElem (by omega)), set_at h1 (by omega), set_at h2 (by omega)⟩
      · cases hk
    · rename_i e
      obtain ⟨a, b, c⟩ := h.yes k sp hk
      exact ⟨set_at a (by omega), set_at b (by omega), set_at c (by omega)⟩
theorem follow_ne (l : Int) (s : KS) : (s.follow l).2 ≠ 0 := by
  unfold KS.follow KS.clash
  split
  · simp
  · split <;> simp
/-- An entry without a conflict is behind. -/
theorem follow_wt {x : Spn} {s1 : KS} (h1 : s1.th = k) (h2 : (s1.lo, s1.hi) = x) (h3 : s1.err = 0) (h4 : s1.fails ≤ f) (h5 : s1.tries = tr) (ht : TabE lk T ws tb)
    (hg : ({ (s1.follow lk).1 with next := (s1.follow lk).2 } : KS).good lk) (hc : s1.conf = false) (he : 0 ≤ s1.entry ∧ s1.entry < lk)
    (hp : ∀ (j : Nat) (sp : Spn), (j : Int) < s1.entry + 1 → tb[j]? = some (some sp) → ovl sp (s1.lo, s1.hi) = false) (hf : 0 ≤ s1.free → tb[s1.free.toNat]? = some none) :
    Wt lk T tr (f + 1) ws tb (some k) k x { (s1.follow lk).1 with next := (s1.follow lk).2 } ∧ ¬ ((s1.follow lk).2 = 3 ∧ (s1.follow lk).1.conf = false) ∧ (s1.follow lk).2 ≠ 0 := by
  unfold KS.follow at hg ⊢
  split
  · rename_i h
    rw [if_pos h] at hg
    exact ⟨⟨h1, h2, h3, by show s1.fails ≤ _; omega, h5, hg, .inr ⟨rfl, .look hc (.inl rfl) hp hf (fun e => by cases e)⟩⟩, fun e => (by cases e.1), fun e => by cases e⟩
  · rename_i h
    rw [if_neg h] at hg
    split
    · rename_i hfr
      rw [if_pos hfr] at hg
      exact ⟨⟨h1, h2, h3, by show s1.fails + 1 ≤ _; omega, h5, hg, .inr ⟨rfl, .done rfl⟩⟩, fun e => (by cases e.2), fun e => by cases e⟩
    · rename_i hfr
      rw [if_neg hfr] at hg
      refine ⟨⟨h1, h2, h3, by show s1.fails ≤ _; omega, h5, hg, .inr ⟨rfl, .put hc (.inl rfl) (fun j sp q => hp j sp ?_ q) (hf (by omega)) (fun e => absurd rfl e) (fun e => by cases e)⟩⟩, fun e => (by cases e.1), fun e => by cases e⟩
      have := (List.getElem?_eq_some_iff.1 q).1
      rw [ht.len] at this
      omega
/-- What comes of a step. -/
def StepOut (lk M T : Nat) (tr f : Int) (ws : List Int) (K : Nat → Option KS) (own : Nat → Spn) (en : Nat → Int) (k : Nat) (s' : KS) (tb : List (Option Spn)) : Prop :=
  ∃ hd, (s'.next ≠ 0 ∧ RInv lk M T tr f ws (Go.Lf.fup K k (some s')) own en tb hd)
    ∨ (s'.next = 0 ∧ s'.res = (0, s'.fails, 11) ∧ RInv lk M T tr f ws (Go.Lf.fup K k none) own en tb hd)
    ∨ (∃ j : Nat, s'.next = 0 ∧ s'.res = ((j : Int), s'.fails, 0) ∧ RInv lk M T tr f ws (Go.Lf.fup K k (some s')) own (Go.Lf.fup en k j) tb hd)
theorem RInv.latch (h : RInv lk M T tr f ws K own en tb hd) (hl : 1 ≤ lk) (hMT : M < T) (hf : f + 1 < 1000000) (hk : K k = some s) (he : en k < 0) (x : Int) (hx : ws[s.at M T]? = some x) (h2 : s.next = 2) :
    StepOut lk M T tr (f + 1) (s.ws M T ws x) K own en k (s.step lk x) tb := by
  have hw := h.th k s hk he
  have hfl := hw.fl
  have hat : s.at M T = M := if_pos h2
  rw [hat, h.ms] at hx
  have hxm : x = msw hd := by cases hx; rfl
  by_cases hx0 : x = 0
  · have hhd : hd = none := by
      cases hd with
      | none => rfl
      | some j => have : x = (j : Int) + 1 := hxm; omega
    have hg := fun e => KS.step_good (lk := lk) (x := x) hw.good (by omega) (by omega) e
    have e1 : s.step lk x = { s with entry := 0, free := -1, conf := false, next := 37 } := by unfold KS.step KS.act; rw [if_pos h2, if_pos hx0]
    have e2 : s.ws M T ws x = ws.set M (s.th + 1) := by rw [KS.ws_some (v := s.th + 1) (by unfold KS.put; rw [if_pos h2, if_pos hx0]), hat]
    rw [e1] at hg
    rw [e1, e2]
    refine ⟨some k, .inl ⟨by show (37 : Int) ≠ 0; decide, ?_⟩⟩
    have := h.fup (k := k) (ws' := ws.set M (s.th + 1)) (tb' := tb) (hd' := some k) (some { s with entry := 0, free := -1, conf := false, next := 37 }) (own k) (en k) (h.tab.master hMT _) h.ap (by rw [set_me h.ms, hw.th]; rfl)
      (fun j s _ q => by rw [hhd] at q; cases q)
      (fun s2 e _ => by
        cases e
        exact ⟨hw.th, hw.sp, hw.err, by show s.fails ≤ _; omega, hw.tries, hg (by show (37 : Int) ≠ 0; decide), .inr ⟨rfl, .look rfl (.inl rfl) (fun j sp q => by have q' : (j : Int) < 0 := q; omega) (fun q => by have q' : (0 : Int) ≤ -1 := q; omega) (fun q => by cases q)⟩⟩)
      (fun j q => by rw [clm_some he (fun e => by cases e.1)] at q; cases q) (fun j i sp _ _ q => q) (fun j i _ q _ => by rw [clm_some he (fun e => by cases e.1)] at q; cases q)
    rw [fup_same, fup_same] at this
    exact this
  · have e2 : s.ws M T ws x = ws := by
      have : s.put x = none := by unfold KS.put; rw [if_pos h2, if_neg hx0]
      unfold KS.ws; rw [this]
    have hg := fun e => KS.step_good (lk := lk) (x := x) hw.good (by omega) (by omega) e
    rw [e2]
    by_cases hft : s.fails + 1 = s.tries
    · have e1 : s.step lk x = { s with fails := s.fails + 1, err := 11, next := 0 } := by unfold KS.step KS.act; rw [if_pos h2, if_neg hx0]; unfold KS.again; rw [if_pos hft]
      rw [e1]
      refine ⟨hd, .inr (.inl ⟨rfl, rfl, ?_⟩)⟩
      have := h.fup (k := k) (ws' := ws) (tb' := tb) (hd' := hd) none (own k) (en k) h.tab h.ap h.ms (fun j s _ h1 h2 _ => ⟨h1, h2⟩) (fun s2 e _ => by cases e) (fun j hj => by rw [clm_none he] at hj; cases hj) (fun j i sp _ _ q => q) (fun j i _ hj _ => by rw [clm_none he] at hj; cases hj)
      rw [fup_same, fup_same] at this
      exact this
    · have e1 : s.step lk x = { s with fails := s.fails + 1, next := 2 } := by unfold KS.step KS.act; rw [if_pos h2, if_neg hx0]; unfold KS.again; rw [if_neg hft]
      rw [e1] at hg ⊢
      refine ⟨hd, .inl ⟨by show (2 : Int) ≠ 0; decide, h.still hk he _ ⟨hw.th, hw.sp, hw.err, by show s.fails + 1 ≤ _; omega, hw.tries, hg (by show (2 : Int) ≠ 0; decide), .inl rfl⟩ (fun e => by cases e.1)⟩⟩
theorem RInv.look (h : RInv lk M T tr f ws K own en tb hd) (hl : 1 ≤ lk) (hMT : M < T) (hf : f + 1 < 1000000) (hk : K k = some s) (he : en k < 0) (x : Int) (hx : ws[s.at M T]? = some x) (hhd : hd = some k)
    (hc : s.conf = false) (hn : s.next = 37 ∨ s.next = 38 ∨ s.next = 39) (hp : ∀ (j : Nat) (sp : Spn), (j : Int) < s.entry → tb[j]? = some (some sp) → ovl sp (s.lo, s.hi) = false)
    (hfr : 0 ≤ s.free → tb[s.free.toNat]? = some none) (hlo : s.next = 39 → ∀ sp : Spn, tb[s.entry.toNat]? = some (some sp) → s.low = sp.1) :
    StepOut lk M T tr (f + 1) (s.ws M T ws x) K own en k (s.step lk x) tb := by
  have hw := h.th k s hk he
  have hfl := hw.fl
  obtain ⟨en0, en1⟩ := hw.good.en hn
  have hg := fun e => KS.step_good (lk := lk) (x := x) hw.good (by omega) (by omega) e
  rw [KS.ws_none hn]
  obtain ⟨o, ho⟩ : ∃ o, tb[s.entry.toNat]? = some o := ⟨_, List.getElem?_eq_getElem (by rw [h.tab.len]; omega)⟩
  have hee : ((s.entry.toNat : Nat) : Int) = s.entry := by omega
  rcases hn with hn | hn | hn
  · rw [KS.at37 hn] at hx
    cases o with
    | none =>
      have hx0 : x = 0 := by rw [h.tab.no _ ho] at hx; cases hx; rfl
      subst hx0
      have e1 : s.step lk 0 = { (({ s with free := if s.free < 0 then s.entry else s.free } : KS).follow lk).1 with next := (({ s with free := if s.free < 0 then s.entry else s.free } : KS).follow lk).2 } := by unfold KS.step; rw [KS.act37_0 hn]
      rw [e1] at hg ⊢
      have hne : (({ s with free := if s.free < 0 then s.entry else s.free } : KS).follow lk).2 ≠ 0 := follow_ne _ _
      obtain ⟨q1, q2, q3⟩ := follow_wt (s1 := { s with free := if s.free < 0 then s.entry else s.free }) hw.th hw.sp hw.err hw.fl hw.tries h.tab (hg hne) hc ⟨en0, en1⟩
        (fun j sp q1 q2 => by
          have q1' : (j : Int) < s.entry + 1 := q1
          by_cases hj : (j : Int) = s.entry
          · have : j = s.entry.toNat := by omega
            subst this; rw [ho] at q2; cases q2
          · exact hp j sp (by omega) q2)
        (fun q => by
          show tb[(if s.free < 0 then s.entry else s.free).toNat]? = some none
          split
          · exact ho
          · exact hfr (by omega))
      exact ⟨hd, .inl ⟨q3, h.still hk he _ (hhd ▸ q1) q2⟩⟩
    | some sp =>
      have hx1 : x = 1 := by rw [(h.tab.yes _ sp ho).1] at hx; cases hx; rfl
      subst hx1
      have e1 : s.step lk 1 = { s with next := 38 } := by unfold KS.step; rw [KS.act37_1 hn (by decide)]
      rw [e1] at hg ⊢
      exact ⟨hd, .inl ⟨by show (38 : Int) ≠ 0; decide, h.still hk he _ ⟨hw.th, hw.sp, hw.err, by show s.fails ≤ _; omega, hw.tries, hg (by show (38 : Int) ≠ 0; decide), .inr ⟨hhd, .look hc (.inr (.inl rfl)) hp hfr (fun e => by cases e)⟩⟩ (fun e => by cases e.1)⟩⟩
  · rw [KS.at38 hn] at hx
    have e1 : s.step lk x = { s with low := x, next := 39 } := by unfold KS.step; rw [KS.act38 hn]
    rw [e1] at hg ⊢
    refine ⟨hd, .inl ⟨by show (39 : Int) ≠ 0; decide, h.still hk he _ ⟨hw.th, hw.sp, hw.err, by show s.fails ≤ _; omega, hw.tries, hg (by show (39 : Int) ≠ 0; decide), .inr ⟨hhd, .look hc (.inr (.inr rfl)) hp hfr (fun _ sp q => ?_)⟩⟩ (fun e => by cases e.1)⟩⟩
    have q' : tb[s.entry.toNat]? = some (some sp) := q
    rw [(h.tab.yes _ sp q').2.1] at hx
    cases hx; rfl
  · rw [KS.at39 hn] at hx
    by_cases hov : s.low ≤ s.hi ∧ s.lo ≤ x
    · have e1 : s.step lk x = { s with fails := s.fails + 1, conf := true, next := 3 } := by unfold KS.step; rw [KS.act39 hn, if_pos hov]; rfl
      rw [e1] at hg ⊢
      exact ⟨hd, .inl ⟨by show (3 : Int) ≠ 0; decide, h.still hk he _ ⟨hw.th, hw.sp, hw.err, by show s.fails + 1 ≤ _; omega, hw.tries, hg (by show (3 : Int) ≠ 0; decide), .inr ⟨hhd, .done rfl⟩⟩ (fun e => by cases e.2)⟩⟩
    · have e1 : s.step lk x = { (s.follow lk).1 with next := (s.follow lk).2 } := by unfold KS.step; rw [KS.act39 hn, if_neg hov]
      rw [e1] at hg ⊢
      have hne : (s.follow lk).2 ≠ 0 := follow_ne _ _
      obtain ⟨q1, q2, q3⟩ := follow_wt (s1 := s) hw.th hw.sp hw.err hw.fl hw.tries h.tab (hg hne) hc ⟨en0, en1⟩
        (fun j sp q1 q2 => by
          by_cases hj : (j : Int) = s.entry
          · have : j = s.entry.toNat := by omega
            subst this
            rw [(h.tab.yes _ sp q2).2.2] at hx
            have hx2 : sp.2 = x := by cases hx; rfl
            have := hlo hn sp q2
            rw [this, ← hx2] at hov
            unfold ovl
            show (decide (sp.1 ≤ s.hi) && decide (s.lo ≤ sp.2)) = false
            simpa using hov
          · exact hp j sp (by omega) q2)
        hfr
      exact ⟨hd, .inl ⟨q3, h.still hk he _ (hhd ▸ q1) q2⟩⟩
theorem RInv.put_ (h : RInv lk M T tr f ws K own en tb hd) (hl : 1 ≤ lk) (hMT : M < T) (hf : f + 1 < 1000000) (hk : K k = some s) (he : en k < 0) (x : Int) (hx : ws[s.at M T]? = some x) (hhd : hd = some k)
    (hc : s.conf = false) (hn : s.next = 40 ∨ s.next = 41) (hp : ∀ (j : Nat) (sp : Spn), tb[j]? = some (some sp) → ovl sp (s.lo, s.hi) = false)
    (hfr : tb[s.free.toNat]? = some none) (h1 : s.next ≠ 40 → ws[T + 3 * s.free.toNat + 1]? = some s.lo) :
    StepOut lk M T tr (f + 1) (s.ws M T ws x) K own en k (s.step lk x) tb := by
  have hw := h.th k s hk he
  have hfl := hw.fl
  have hg := fun e => KS.step_good (lk := lk) (x := x) hw.good (by omega) (by omega) e
  have oth : ∀ (j : Nat) (s2 : KS) (W : List Int), j ≠ k → hd = some j → LT T ws tb s2 → s2.good lk → hd = some j ∧ LT T W tb s2 := fun j s2 W hj h1 _ _ => absurd (by rw [hhd] at h1; cases h1; rfl) hj
  rcases hn with hn | hn
  · have hat : s.at M T = T + 3 * s.free.toNat + 1 := by unfold KS.at; rw [if_neg (by omega), if_neg (by omega), if_neg (by omega), if_neg (by omega), if_pos hn]
    rw [hat] at hx
    have e1 : s.step lk x = { s with next := 41 } := by unfold KS.step KS.act; rw [if_neg (by omega), if_neg (by omega), if_neg (by omega), if_neg (by omega), if_pos hn]
    have e2 : s.ws M T ws x = ws.set (T + 3 * s.free.toNat + 1) s.lo := by rw [KS.ws_some (v := s.lo) (by unfold KS.put; rw [if_neg (by omega), if_pos hn]), hat]
    rw [e1] at hg
    rw [e1, e2]
    refine ⟨hd, .inl ⟨by show (41 : Int) ≠ 0; decide, ?_⟩⟩
    have := h.fup (k := k) (ws' := ws.set (T + 3 * s.free.toNat + 1) s.lo) (tb' := tb) (hd' := hd) (some { s with next := 41 }) (own k) (en k) (h.tab.put hfr (.inl rfl) _) h.ap (set_at h.ms (by omega)) (fun j s2 a b c d => oth j s2 _ a b c d)
      (fun s2 e _ => by
        cases e
        exact ⟨hw.th, hw.sp, hw.err, by show s.fails ≤ _; omega, hw.tries, hg (by show (41 : Int) ≠ 0; decide), .inr ⟨hhd, .put hc (.inr (.inl rfl)) hp hfr (fun _ => set_me hx) (fun q => by cases q)⟩⟩)
      (fun j q => by rw [clm_some he (fun e => by cases e.1)] at q; cases q) (fun j i sp _ _ q => q) (fun j i _ q _ => by rw [clm_some he (fun e => by cases e.1)] at q; cases q)
    rw [fup_same, fup_same] at this
    exact this
  · have hat : s.at M T = T + 3 * s.free.toNat + 2 := by unfold KS.at; rw [if_neg (by omega), if_neg (by omega), if_neg (by omega), if_neg (by omega), if_neg (by omega), if_pos hn]
    rw [hat] at hx
    have e1 : s.step lk x = { s with next := 42 } := by unfold KS.step KS.act; rw [if_neg (by omega), if_neg (by omega), if_neg (by omega), if_neg (by omega), if_neg (by omega), if_pos hn]
    have e2 : s.ws M T ws x = ws.set (T + 3 * s.free.toNat + 2) s.hi := by rw [KS.ws_some (v := s.hi) (by unfold KS.put; rw [if_neg (by omega), if_neg (by omega), if_pos hn]), hat]
    rw [e1] at hg
    rw [e1, e2]
    refine ⟨hd, .inl ⟨by show (42 : Int) ≠ 0; decide, ?_⟩⟩
    have := h.fup (k := k) (ws' := ws.set (T + 3 * s.free.toNat + 2) s.hi) (tb' := tb) (hd' := hd) (some { s with next := 42 }) (own k) (en k) (h.tab.put hfr (.inr rfl) _) h.ap (set_at h.ms (by omega)) (fun j s2 a b c d => oth j s2 _ a b c d)
      (fun s2 e _ => by
        cases e
        exact ⟨hw.th, hw.sp, hw.err, by show s.fails ≤ _; omega, hw.tries, hg (by show (42 : Int) ≠ 0; decide), .inr ⟨hhd, .put hc (.inr (.inr rfl)) hp hfr (fun _ => set_at (h1 (by omega)) (by omega)) (fun _ => set_me hx)⟩⟩)
      (fun j q => by rw [clm_some he (fun e => by cases e.1)] at q; cases q) (fun j i sp _ _ q => q) (fun j i _ q _ => by rw [clm_some he (fun e => by cases e.1)] at q; cases q)
    rw [fup_same, fup_same] at this
    exact this
theorem RInv.take (h : RInv lk M T tr f ws K own en tb hd) (hl : 1 ≤ lk) (hMT : M < T) (hf : f + 1 < 1000000) (hk : K k = some s) (he : en k < 0) (x : Int) (hx : ws[s.at M T]? = some x) (hhd : hd = some k)
    (hc : s.conf = false) (hn : s.next = 42) (hp : ∀ (j : Nat) (sp : Spn), tb[j]? = some (some sp) → ovl sp (s.lo, s.hi) = false)
    (hfr : tb[s.free.toNat]? = some none) (h1 : ws[T + 3 * s.free.toNat + 1]? = some s.lo) (h2 : ws[T + 3 * s.free.toNat + 2]? = some s.hi) :
    StepOut lk M T tr (f + 1) (s.ws M T ws x) K own en k (s.step lk x) (tb.set s.free.toNat (some (s.lo, s.hi))) := by
  have hw := h.th k s hk he
  have hfl := hw.fl
  have hg := fun e => KS.step_good (lk := lk) (x := x) hw.good (by omega) (by omega) e
  have hat : s.at M T = T + 3 * s.free.toNat := by unfold KS.at; rw [if_neg (by omega), if_neg (by omega), if_neg (by omega), if_neg (by omega), if_neg (by omega), if_neg (by omega), if_pos hn]
  rw [hat] at hx
  have e1 : s.step lk x = { s with next := 3 } := by unfold KS.step KS.act; rw [if_neg (by omega), if_neg (by omega), if_neg (by omega), if_neg (by omega), if_neg (by omega), if_neg (by omega), if_pos hn]
  have e2 : s.ws M T ws x = ws.set (T + 3 * s.free.toNat) 1 := by rw [KS.ws_some (v := 1) (by unfold KS.put; rw [if_neg (by omega), if_neg (by omega), if_neg (by omega), if_pos hn]), hat]
  have hfs := hw.good.fs (by omega)
  rw [e1] at hg
  rw [e1, e2]
  have old : ∀ (i : Nat) (a : Spn), (tb.set s.free.toNat (some (s.lo, s.hi)))[i]? = some (some a) → (i = s.free.toNat ∧ a = (s.lo, s.hi)) ∨ (i ≠ s.free.toNat ∧ tb[i]? = some (some a)) := fun i a hi => by
    rw [List.getElem?_set] at hi
    split at hi
    · rename_i e
      split at hi
      · cases hi; exact .inl ⟨e.symm, rfl⟩
      · cases hi
    · rename_i e
      exact .inr ⟨fun q => e q.symm, hi⟩
  have mine : (tb.set s.free.toNat (some (s.lo, s.hi)))[s.free.toNat]? = some (some (s.lo, s.hi)) := by
    rw [List.getElem?_set_self (List.getElem?_eq_some_iff.1 hfr).1]
  refine ⟨hd, .inl ⟨by show (3 : Int) ≠ 0; decide, ?_⟩⟩
  have := h.fup (k := k) (ws' := ws.set (T + 3 * s.free.toNat) 1) (tb' := tb.set s.free.toNat (some (s.lo, s.hi))) (hd' := hd) (some { s with next := 3 }) (own k) (en k) (h.tab.take hfr h1 h2)
    (fun i j a b hij ha hb => by
      rcases old i a ha with ⟨p1, p2⟩ | ⟨p1, p2⟩ <;> rcases old j b hb with ⟨q1, q2⟩ | ⟨q1, q2⟩
      · omega
      · rw [p2, ovl_symm]; exact hp j b q2
      · rw [q2]; exact hp i a p2
      · exact h.ap i j a b hij p2 q2)
    (set_at h.ms (by omega)) (fun j s2 hj h1 _ _ => absurd (by rw [hhd] at h1; cases h1; rfl) hj)
    (fun s2 e _ => by
      cases e
      exact ⟨hw.th, hw.sp, hw.err, by show s.fails ≤ _; omega, hw.tries, hg (by show (3 : Int) ≠ 0; decide), .inr ⟨hhd, .done rfl⟩⟩)
    (fun j q => by
      rw [clm_yes (s := { s with next := 3 }) he rfl hc] at q
      have q' : some s.free = some j := q
      cases q'
      exact ⟨s.free.toNat, by omega, by rw [mine, hw.sp]⟩)
    (fun j i sp _ _ q => by
      rw [List.getElem?_set]
      split
      · rename_i e; subst e; rw [hfr] at q; cases q
      · exact q)
    (fun j i _ q q2 => by
      rw [clm_yes (s := { s with next := 3 }) he rfl hc] at q
      have q' : some s.free = some i := q
      cases q'
      obtain ⟨n, hn1, hn2⟩ := h.cl j _ q2
      have : n = s.free.toNat := by omega
      subst this
      rw [hfr] at hn2; cases hn2)
  rw [fup_same, fup_same] at this
  exact this
theorem RInv.unlatch (h : RInv lk M T tr f ws K own en tb hd) (hl : 1 ≤ lk) (hMT : M < T) (hf : f + 1 < 1000000) (hk : K k = some s) (he : en k < 0) (x : Int) (hx : ws[s.at M T]? = some x) (hhd : hd = some k) (hn : s.next = 3) :
    StepOut lk M T tr (f + 1) (s.ws M T ws x) K own en k (s.step lk x) tb := by
  have hw := h.th k s hk he
  have hfl := hw.fl
  have hg := fun e => KS.step_good (lk := lk) (x := x) hw.good (by omega) (by omega) e
  have hat : s.at M T = M := by unfold KS.at; rw [if_neg (by omega), if_neg (by omega), if_neg (by omega), if_neg (by omega), if_neg (by omega), if_neg (by omega), if_neg (by omega)]
  have e2 : s.ws M T ws x = ws.set M 0 := by rw [KS.ws_some (v := 0) (by unfold KS.put; rw [if_neg (by omega), if_neg (by omega), if_neg (by omega), if_neg (by omega), if_pos hn]), hat]
  have oth : ∀ (j : Nat) (s2 : KS), j ≠ k → hd = some j → LT T ws tb s2 → s2.good lk → none = some j ∧ LT T (ws.set M 0) tb s2 := fun j s2 hj h1 _ _ => absurd (by rw [hhd] at h1; cases h1; rfl) hj
  have hms : (ws.set M 0)[M]? = some (msw none) := set_me h.ms
  rw [e2]
  cases hc : s.conf with
  | true =>
    have ea : s.act lk x = s.again := by unfold KS.act; rw [if_neg (by omega), if_neg (by omega), if_neg (by omega), if_neg (by omega), if_neg (by omega), if_neg (by omega), if_neg (by omega), if_pos hc]
    by_cases hft : s.fails = s.tries
    · have e1 : s.step lk x = { s with err := 11, next := 0 } := by unfold KS.step; rw [ea]; unfold KS.again; rw [if_pos hft]
      rw [e1]
      refine ⟨none, .inr (.inl ⟨rfl, rfl, ?_⟩)⟩
      have := h.fup (k := k) (ws' := ws.set M 0) (tb' := tb) (hd' := none) none (own k) (en k) (h.tab.master hMT _) h.ap hms oth (fun s2 e _ => by cases e) (fun j hj => by rw [clm_none he] at hj; cases hj) (fun j i sp _ _ q => q) (fun j i _ hj _ => by rw [clm_none he] at hj; cases hj)
      rw [fup_same, fup_same] at this
      exact this
    · have e1 : s.step lk x = { s with next := 2 } := by unfold KS.step; rw [ea]; unfold KS.again; rw [if_neg hft]
      rw [e1] at hg ⊢
      refine ⟨none, .inl ⟨by show (2 : Int) ≠ 0; decide, ?_⟩⟩
      have := h.fup (k := k) (ws' := ws.set M 0) (tb' := tb) (hd' := none) (some { s with next := 2 }) (own k) (en k) (h.tab.master hMT _) h.ap hms oth
        (fun s2 e _ => by cases e; exact ⟨hw.th, hw.sp, hw.err, by show s.fails ≤ _; omega, hw.tries, hg (by show (2 : Int) ≠ 0; decide), .inl rfl⟩)
        (fun j hj => by rw [clm_some he (fun e => by cases e.1)] at hj; cases hj) (fun j i sp _ _ q => q) (fun j i _ hj _ => by rw [clm_some he (fun e => by cases e.1)] at hj; cases hj)
      rw [fup_same, fup_same] at this
      exact this
  | false =>
    have ea : s.act lk x = (s, 0) := by unfold KS.act; rw [if_neg (by omega), if_neg (by omega), if_neg (by omega), if_neg (by omega), if_neg (by omega), if_neg (by omega), if_neg (by omega), if_neg (by rw [hc]; decide)]
    have e1 : s.step lk x = { s with next := 0 } := by unfold KS.step; rw [ea]
    have hcl : clm (K k) (en k) = some s.free := by rw [hk]; exact clm_yes he hn hc
    obtain ⟨j, hj, htb⟩ := h.cl k _ hcl
    rw [e1]
    refine ⟨none, .inr (.inr ⟨j, rfl, by unfold KS.res; rw [if_neg (by simp), if_neg (by simp [hw.err])]; show (s.free, s.fails, _) = _; rw [hj], ?_⟩)⟩
    have hcj : clm (some { s with next := 0 }) (j : Int) = some (j : Int) := clm_held (by omega)
    have := h.fup (k := k) (ws' := ws.set M 0) (tb' := tb) (hd' := none) (some { s with next := 0 }) (own k) (j : Int) (h.tab.master hMT _) h.ap hms oth
      (fun s2 _ e => by omega)
      (fun i q => by rw [hcj] at q; cases q; exact ⟨j, rfl, htb⟩) (fun j i sp _ _ q => q)
      (fun i n hik q q2 => by rw [hcj] at q; cases q; rw [← hj] at q2; exact hik (h.un i k _ q2 hcl))
    rw [fup_same (f := own)] at this
    exact this
/-- Thread k steps. -/
theorem RInv.step (h : RInv lk M T tr f ws K own en tb hd) (hl : 1 ≤ lk) (hMT : M < T) (hf : f + 1 < 1000000) (hk : K k = some s) (he : en k < 0) (x : Int) (hx : ws[s.at M T]? = some x) :
    ∃ tb', cntS tb' = cntS tb + (if s.next = 42 then 1 else 0) ∧ StepOut lk M T tr (f + 1) (s.ws M T ws x) K own en k (s.step lk x) tb' := by
  have hw := h.th k s hk he
  rcases hw.at_ with h2 | ⟨hhd, hlt⟩
  · exact ⟨tb, by rw [if_neg (by omega)]; rfl, h.latch hl hMT hf hk he x hx h2⟩
  · cases hlt with
    | look a b c d e => exact ⟨tb, by rw [if_neg (by omega)]; rfl, h.look hl hMT hf hk he x hx hhd a b c d e⟩
    | put a b c d e g =>
      by_cases h42 : s.next = 42
      · exact ⟨_, by rw [if_pos h42]; exact cnt_take d, h.take hl hMT hf hk he x hx hhd a h42 c d (e (by omega)) (g h42)⟩
      · exact ⟨tb, by rw [if_neg h42]; rfl, h.put_ hl hMT hf hk he x hx hhd a (by omega) c d e⟩
    | done a => exact ⟨tb, by rw [if_neg (by omega)]; rfl, h.unlatch hl hMT hf hk he x hx hhd a⟩
end
end Go.Lf
