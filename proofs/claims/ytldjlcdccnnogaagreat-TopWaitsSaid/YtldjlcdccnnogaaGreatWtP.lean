/- TopWaits as a plain law: own steps of waits, and what holds them up. -/
import Derived.Test.YtldjlcdccnnogaaGreatRigJ
set_option linter.unusedVariables false
set_option linter.unusedSimpArgs false
namespace Go.Lf
open Go.RowKit
/-- Something holds a wait of a thread up at a step. -/
def Met (l : List EvR) (conc : Int → Int → Bool) (set th : Int) (t : Nat) : Prop :=
  (∃ p ∈ prs 1 2 l, conc set p.val = true ∧ p.a ≤ t ∧ (p.b < 0 ∨ (t : Int) ≤ p.b)) ∨ ∃ p ∈ prs 3 4 l, p.th ≠ th ∧ p.a ≤ t ∧ (p.b < 0 ∨ (t : Int) ≤ p.b)
theorem prs_snoc_mem {bk ek : Int} {l : List EvR} {z : EvR} {p : PrR} (h : p ∈ prs bk ek l) : ∃ p' ∈ prs bk ek (l ++ [z]), p'.th = p.th ∧ p'.val = p.val ∧ p'.a = p.a ∧ (p'.b = p.b ∨ p'.b = z.step) := by
  unfold prs at h ⊢
  rw [prS_snoc]
  unfold PrS.step
  split
  · exact ⟨p, List.mem_append_left _ h, rfl, rfl, rfl, .inl rfl⟩
  · split
    · cases hl : (prS bk ek l).last z.th with
      | none => exact ⟨p, h, rfl, rfl, rfl, .inl rfl⟩
      | some i =>
        obtain ⟨j, hj⟩ := List.getElem?_of_mem h
        by_cases e : i = j
        · subst e
          refine ⟨{ p with b := z.step }, List.mem_of_getElem? (i := i) ?_, rfl, rfl, rfl, .inr rfl⟩
          simp only [List.getElem?_modify, hj]
          simp
        · refine ⟨p, List.mem_of_getElem? (i := j) ?_, rfl, rfl, rfl, .inl rfl⟩
          simp only [List.getElem?_modify, hj, if_neg e]
          simp
    · exact ⟨p, h, rfl, rfl, rfl, .inl rfl⟩
theorem Met.snoc {l : List EvR} {conc : Int → Int → Bool} {set th : Int} {t : Nat} {z : EvR} (h : Met l conc set th t) (hz : (t : Int) ≤ z.step) : Met (l ++ [z]) conc set th t := by
  rcases h with ⟨p, hp, h1, h2, h3⟩ | ⟨p, hp, h1, h2, h3⟩
  · obtain ⟨p', hp', a, b, c, d⟩ := prs_snoc_mem (z := z) hp
    exact .inl ⟨p', hp', by rw [b]; exact h1, by rw [c]; exact h2, d.elim (fun d => by rw [d]; exact h3) (fun d => .inr (by rw [d]; exact hz))⟩
  · obtain ⟨p', hp', a, b, c, d⟩ := prs_snoc_mem (z := z) hp
    exact .inr ⟨p', hp', by rw [a]; exact h1, by rw [c]; exact h2, d.elim (fun d => by rw [d]; exact h3) (fun d => .inr (by rw [d]; exact hz))⟩
/-- How many of the steps s .. e - 1 are a thread's. -/
def owns (who : List Int) (th : Int) (s e : Nat) : Nat := ((who.drop s).take (e - s)).count th
theorem owns_end (who : List Int) (th : Int) (s : Nat) : owns who th s s = 0 := by simp [owns]
theorem owns_over {who : List Int} {th : Int} {s e : Nat} (h : e ≤ s) : owns who th s e = 0 := by unfold owns; rw [Nat.sub_eq_zero_of_le h]; rfl
theorem owns_le (who : List Int) (th : Int) (s e : Nat) : owns who th s e ≤ e - s := Nat.le_trans List.count_le_length (by rw [List.length_take]; omega)
theorem owns_down {who : List Int} {th x : Int} {s e : Nat} (h : s < e) (hx : who[s]? = some x) : owns who th s e = owns who th (s + 1) e + (if x = th then 1 else 0) := by
  unfold owns
  obtain ⟨hl, e1⟩ := List.getElem?_eq_some_iff.1 hx
  rw [List.drop_eq_getElem_cons hl, e1, show e - s = (e - (s + 1)) + 1 by omega, List.take_succ_cons, List.count_cons]
  simp
theorem owns_same {who : List Int} {th x : Int} {s e : Nat} (h : e ≤ who.length) : owns (who ++ [x]) th s e = owns who th s e := by
  by_cases hs : s ≤ e
  · unfold owns
    rw [List.drop_append_of_le_length (by omega), List.take_append_of_le_length (by rw [List.length_drop]; omega)]
  · rw [owns_over (by omega), owns_over (by omega)]
theorem owns_up {who : List Int} {th x : Int} {s : Nat} (h : s ≤ who.length) : owns (who ++ [x]) th s (who.length + 1) = owns who th s who.length + (if x = th then 1 else 0) := by
  unfold owns
  rw [List.drop_append_of_le_length h, List.take_of_length_le (by simp; omega), List.take_of_length_le (by simp), List.count_append]
  simp [List.count_cons]
/-- The step behind a wait's last one. -/
def wEnd (p : PrR) (st : Nat) : Nat := if p.b < 0 then st else (p.b + 1).toNat
/-- What holds of a wait: it made few own steps, or something held it up. -/
def WOk (bnd : Int → Nat) (conc : Int → Int → Bool) (l : List EvR) (st : Nat) (R : Nat → Nat) (who : List Int) (p : PrR) : Prop :=
  ∀ s0 : Nat, p.a ≤ s0 → s0 ≤ wEnd p st → owns who p.th s0 (wEnd p st) + (if p.b < 0 then R p.th.toNat else 0) ≤ bnd p.val ∨ ∃ t : Nat, s0 ≤ t ∧ t < wEnd p st ∧ Met l conc p.val p.th t
structure WInv (n : Nat) (bnd : Int → Nat) (conc : Int → Int → Bool) (s : RgS) (who : List Int) : Prop where
  len : who.length = s.st
  ok : ∀ (i : Nat) (p : PrR), (prs 3 4 s.l)[i]? = some p → WOk bnd conc s.l s.st s.x.R who p
section
variable {n k i : Nat} {bnd : Int → Nat} {conc : Int → Int → Bool} {l l2 : List EvR} {st : Nat} {T : Nat → TS} {M : Nat → Nat → Prop} {R R2 : Nat → Nat} {who : List Int} {p : PrR} {w : Int} {s s2 : RgS}
theorem WOk.other (h : WOk bnd conc l st R who p) (hl : who.length = st) (hM : ∀ t, t ≤ st → Met l conc p.val p.th t → Met l2 conc p.val p.th t) (h1 : p.b < 0 → p.th ≠ w ∧ R2 p.th.toNat = R p.th.toNat ∧ R p.th.toNat ≤ bnd p.val) (h2 : 0 ≤ p.b → p.b < st) : WOk bnd conc l2 (st + 1) R2 (who ++ [w]) p := by
  intro s0 ha he
  by_cases hb : p.b < 0
  · obtain ⟨q1, q2, q3⟩ := h1 hb
    have e1 : wEnd p (st + 1) = st + 1 := if_pos hb
    have e2 : wEnd p st = st := if_pos hb
    rw [e1] at he ⊢
    rw [if_pos hb, q2]
    by_cases hs : s0 ≤ st
    · have := h s0 ha (by rw [e2]; exact hs)
      rw [e2, if_pos hb] at this
      have e3 := owns_up (who := who) (th := p.th) (x := w) (s := s0) (by omega)
      rw [hl, if_neg (fun e => q1 e.symm)] at e3
      rw [e3]
      rcases this with q | ⟨t, t1, t2, t3⟩
      · exact .inl q
      · exact .inr ⟨t, t1, by omega, hM t (by omega) t3⟩
    · rw [owns_over (by omega)]
      exact .inl (by omega)
  · have e1 : wEnd p (st + 1) = (p.b + 1).toNat := if_neg hb
    have e2 : wEnd p st = (p.b + 1).toNat := if_neg hb
    have h2 := h2 (by omega)
    rw [e1] at he ⊢
    rw [if_neg hb, owns_same (by omega)]
    have := h s0 ha (by rw [e2]; exact he)
    rw [e2, if_neg hb] at this
    rcases this with q | ⟨t, t1, t2, t3⟩
    · exact .inl q
    · exact .inr ⟨t, t1, t2, hM t (by omega) t3⟩
/-- A wait that has not responded is one that its thread makes. -/
theorem act_of (h : RgE n l st T M) (hp : (prs 3 4 l)[i]? = some p) (hb : p.b < 0) : ∃ j, j < n ∧ p.th = (j : Int) ∧ T j = .wa p.val true ∧ evT l p.th = .wt p.val p.a ∧ (prS 3 4 l).last p.th = some i := by
  have inv := PrInv.of (bk := 3) (ek := 4) (.inr ⟨rfl, rfl⟩) h.good
  rcases inv.cl i p hp with ⟨q1, q2, q3⟩ | ⟨q1, -⟩
  · have hw : evT l p.th = .wt p.val p.a := by
      cases hE : evT l p.th with
      | out => rw [hE] at q2; cases q2
      | inn v s => rw [hE] at q2; simp [EvS.get] at q2
      | wt v s =>
        rw [hE] at q2
        simp only [EvS.get, if_true, Option.some.injEq, Prod.mk.injEq] at q2
        rw [q2.1, q2.2]
    by_cases hj : ∃ j : Nat, j < n ∧ p.th = j
    · obtain ⟨j, hj, ej⟩ := hj
      refine ⟨j, hj, ej, ?_, hw, q3⟩
      have hr := h.rel j hj
      rw [← ej, hw] at hr
      cases hT : T j with
      | idle => rw [hT] at hr; cases hr
      | en v => rw [hT] at hr; cases hr
      | inn v => rw [hT] at hr; obtain ⟨q, e⟩ := hr; cases e
      | wa set bg =>
        rw [hT] at hr
        cases bg with
        | true =>
          obtain ⟨f, e⟩ := (show ∃ f, EvS.wt p.val p.a = .wt set f from hr)
          cases e; rfl
        | false => have hr : EvS.wt p.val p.a = .out := hr; cases hr
    · rw [h.far p.th (fun j hj' e => hj ⟨j, hj', e⟩)] at hw
      cases hw
  · omega
theorem pair_old (h : RgE n l st T M) {bk ek : Int} (hbe : (bk = 1 ∧ ek = 2) ∨ (bk = 3 ∧ ek = 4)) (hp : (prs bk ek l)[i]? = some p) : p.a < st ∧ p.b < st := by
  have inv := PrInv.of (bk := bk) (ek := ek) hbe h.good
  obtain ⟨y, hy⟩ := out_last inv.len hp
  have := inv.mono y hy i p hp
  have := h.last y hy
  omega
/-- What holds a wait up, is seen in the events. -/
theorem met_of (h : RgE n l st T M) {set : Int} (hc : (∃ j v, j < n ∧ T j = .inn v ∧ conc set v = true) ∨ ∃ j s', j < n ∧ j ≠ k ∧ T j = .wa s' true) : Met l conc set k st := by
  rcases hc with ⟨j, v, hj, hT, hv⟩ | ⟨j, s', hj, hjk, hT⟩
  · have hr := h.rel j hj
    rw [hT] at hr
    obtain ⟨q, hq⟩ := (show ∃ q, evT l j = .inn v q from hr)
    have inv := PrInv.of (bk := 1) (ek := 2) (.inl ⟨rfl, rfl⟩) h.good
    obtain ⟨i, -, hi⟩ := inv.op j v q (by rw [hq]; rfl)
    exact .inl ⟨_, List.mem_of_getElem? hi, hv, by have := (h.old j).1 v q hq; show q ≤ _; omega, .inl (by show (-1 : Int) < 0; omega)⟩
  · have hr := h.rel j hj
    rw [hT] at hr
    obtain ⟨q, hq⟩ := (show ∃ f, evT l j = .wt s' f from hr)
    have inv := PrInv.of (bk := 3) (ek := 4) (.inr ⟨rfl, rfl⟩) h.good
    obtain ⟨i, -, hi⟩ := inv.op j s' q (by rw [hq]; rfl)
    exact .inr ⟨_, List.mem_of_getElem? hi, by show (j : Int) ≠ k; omega, by have := (h.old j).2 s' q hq; show q ≤ _; omega, .inl (by show (-1 : Int) < 0; omega)⟩
/-- A wait's own step. -/
theorem wok_own {a set : Int} {r : Nat} {d : Bool} (hl : who.length = st) (h : ∀ s0 : Nat, a ≤ s0 → s0 ≤ st → owns who k s0 st + R k ≤ bnd set ∨ ∃ t : Nat, s0 ≤ t ∧ t < st ∧ Met l conc set k t) (hM : ∀ t, t ≤ st → Met l conc set k t → Met l2 conc set k t) (hr : r ≤ bnd set) (hs : r + 1 ≤ R k ∨ Met l conc set k st) (hR : d = false → R2 k = r) :
    WOk bnd conc l2 (st + 1) R2 (who ++ [(k : Int)]) ⟨k, set, a, if d = true then st else -1⟩ := by
  intro s0 ha he
  have e1 : wEnd ⟨k, set, a, if d = true then st else -1⟩ (st + 1) = st + 1 := by
    unfold wEnd
    cases d with
    | true => simp only [if_true]; rw [if_neg (by omega)]; omega
    | false => simp
  rw [e1] at he ⊢
  have e2 : (if (if d = true then (st : Int) else -1) < 0 then R2 ((k : Int)).toNat else 0) ≤ r := by
    cases d with
    | true => simp only [if_true]; rw [if_neg (by omega)]; omega
    | false => simp [hR rfl]
  simp only
  by_cases hs0 : s0 ≤ st
  · have e3 := owns_up (who := who) (th := k) (x := k) (s := s0) (by omega)
    rw [hl, if_pos rfl] at e3
    rw [e3]
    rcases h s0 ha hs0 with q | ⟨t, t1, t2, t3⟩
    · rcases hs with hs | hs
      · exact .inl (by omega)
      · exact .inr ⟨st, hs0, by omega, hM st (Nat.le_refl _) hs⟩
    · exact .inr ⟨t, t1, by omega, hM t (by omega) t3⟩
  · rw [owns_over (by omega)]
    exact .inl (by omega)
theorem prs_no {bk ek : Int} {z : EvR} (h1 : z.kind ≠ bk) (h2 : z.kind ≠ ek) : prs bk ek (l ++ [z]) = prs bk ek l := by
  unfold prs
  rw [prS_snoc]
  unfold PrS.step
  rw [if_neg h1, if_neg h2]
theorem prS_beg {bk ek : Int} {z : EvR} (h1 : z.kind = bk) : prS bk ek (l ++ [z]) = ⟨prs bk ek l ++ [⟨z.th, z.val, z.step, -1⟩], fun t => if t = z.th then some (prs bk ek l).length else (prS bk ek l).last t⟩ := by
  rw [prS_snoc]
  unfold PrS.step
  rw [if_pos h1]
  rfl
theorem prs_end {bk ek : Int} {z : EvR} {i : Nat} (h1 : z.kind ≠ bk) (h2 : z.kind = ek) (hl : (prS bk ek l).last z.th = some i) : prs bk ek (l ++ [z]) = (prs bk ek l).modify i fun p => { p with b := z.step } := by
  unfold prs
  rw [prS_snoc]
  unfold PrS.step
  rw [if_neg h1, if_pos h2, hl]
/-- A pick keeps what holds of waits. -/
theorem WInv.step (hG : RgG n bnd s) (hst : s2.st = s.st + 1) (h : WInv n bnd conc s who) {pc : Int} (hp : PkR n bnd conc k s s2 pc) (hk : k < n) (hw : w = if pc = 0 then -1 else (k : Int)) : WInv n bnd conc s2 (who ++ [w]) := by
  have hE := hG.e
  refine ⟨by rw [List.length_append, h.len, hst]; rfl, fun i p hpi => ?_⟩
  rw [hst]
  -- a wait of another thread, or one that is over
  have old : ∀ (l2 : List EvR) (i : Nat) (p : PrR), (prs 3 4 s.l)[i]? = some p → (∀ t, t ≤ s.st → Met s.l conc p.val p.th t → Met l2 conc p.val p.th t) → (p.b < 0 → p.th ≠ (k : Int)) → WOk bnd conc l2 (s.st + 1) s2.x.R (who ++ [w]) p := by
    intro l2 i p hpi hM hne
    refine (h.ok i p hpi).other h.len hM (fun hb => ?_) (fun _ => (pair_old hE (.inr ⟨rfl, rfl⟩) hpi).2)
    obtain ⟨j, hj, ej, hT, -⟩ := act_of hE hpi hb
    have hjk : j ≠ k := fun e => hne hb (by rw [ej, e])
    refine ⟨?_, ?_, ?_⟩
    · rw [hw, ej]; split <;> omega
    · rw [ej]; exact (hp.ne j hjk).2
    · rw [ej]; exact hG.rb j _ _ hj hT
  rcases hp.ev with ⟨h1, h2, -⟩ | ⟨set, bg, d, r, hT, hpc, hl2, hd0, hd1, hr, hs⟩
  · have e34 : prs 3 4 s2.l = prs 3 4 s.l := by
      rcases h2 with e | ⟨kd, v, hkd, e⟩
      · rw [e]
      · rw [e]; exact prs_no (by show kd ≠ 3; omega) (by show kd ≠ 4; omega)
    rw [e34] at hpi
    refine old s2.l i p hpi (fun t ht hm => ?_) (fun hb e => ?_)
    · rcases h2 with e | ⟨kd, v, hkd, e⟩
      · rw [e]; exact hm
      · rw [e]; exact hm.snoc (by show (t : Int) ≤ (s.st : Int); omega)
    · obtain ⟨j, hj, ej, hTj, -⟩ := act_of hE hpi hb
      have : j = k := by omega
      subst this
      exact h1 _ _ hTj
  · rw [if_neg hpc] at hw
    subst hw
    have hs' : r + 1 ≤ s.x.R k ∨ Met s.l conc set k s.st := hs.imp id (fun q => met_of hE q)
    have mono : ∀ p : PrR, ∀ t, t ≤ s.st → Met s.l conc p.val p.th t → Met s2.l conc p.val p.th t := by
      intro p t ht hm
      rw [hl2]
      have tt : (t : Int) ≤ (s.st : Int) := by omega
      cases bg <;> cases d
      · rw [show wtEv s.l s.st k set false false = s.l ++ [⟨s.st, k, 3, set⟩] by simp [wtEv]]; exact hm.snoc tt
      · rw [show wtEv s.l s.st k set false true = s.l ++ [⟨s.st, k, 3, set⟩] ++ [⟨s.st, k, 4, set⟩] by simp [wtEv]]; exact (hm.snoc tt).snoc tt
      · rw [show wtEv s.l s.st k set true false = s.l by simp [wtEv]]; exact hm
      · rw [show wtEv s.l s.st k set true true = s.l ++ [⟨s.st, k, 4, set⟩] by simp [wtEv]]; exact hm.snoc tt
    have hR : d = false → s2.x.R k = r := fun e => (hd0 e).2
    have hrel := hE.rel k hk
    rw [hT] at hrel
    have inv := PrInv.of (bk := 3) (ek := 4) (.inr ⟨rfl, rfl⟩) hE.good
    cases bg with
    | true =>
      obtain ⟨f, hf⟩ := (show ∃ f, evT s.l k = .wt set f from hrel)
      obtain ⟨i0, hl0, hi0⟩ := inv.op k set f (by rw [hf]; rfl)
      have h0 := h.ok i0 _ hi0
      have h0' : ∀ s0 : Nat, f ≤ s0 → s0 ≤ s.st → owns who k s0 s.st + s.x.R k ≤ bnd set ∨ ∃ t : Nat, s0 ≤ t ∧ t < s.st ∧ Met s.l conc set k t := h0
      have mine := wok_own (a := f) (R2 := s2.x.R) (d := d) h.len h0' (mono ⟨k, set, 0, 0⟩) hr hs' hR
      have e34 : prs 3 4 s2.l = if d = true then (prs 3 4 s.l).modify i0 (fun p => { p with b := s.st }) else prs 3 4 s.l := by
        rw [hl2]
        cases d with
        | true => exact prs_end (by show (4 : Int) ≠ 3; omega) rfl hl0
        | false => rw [show wtEv s.l s.st k set true false = s.l by simp [wtEv]]; rfl
      have hcase : (i = i0 ∧ p = ⟨k, set, f, if d = true then s.st else -1⟩) ∨ (i ≠ i0 ∧ (prs 3 4 s.l)[i]? = some p) := by
        have hi0 : (prs 3 4 s.l)[i0]? = some ⟨k, set, f, -1⟩ := hi0
        rw [e34] at hpi
        cases d with
        | false =>
          by_cases e : i = i0
          · subst e
            have hpi : (prs 3 4 s.l)[i]? = some p := hpi
            rw [hi0] at hpi
            exact .inl ⟨rfl, (Option.some.inj hpi).symm⟩
          · exact .inr ⟨e, hpi⟩
        | true =>
          simp only [if_true, List.getElem?_modify] at hpi
          by_cases e : i0 = i
          · subst e
            rw [hi0] at hpi
            simp only [if_true, Option.map_eq_map, Option.map_some, Option.some.injEq] at hpi
            exact .inl ⟨rfl, hpi.symm⟩
          · simp only [if_neg e, Option.map_eq_map] at hpi
            exact .inr ⟨Ne.symm e, by simpa using hpi⟩
      rcases hcase with ⟨-, rfl⟩ | ⟨e, hpi'⟩
      · exact mine
      · refine old _ i p hpi' (mono p) (fun hb e2 => ?_)
        obtain ⟨j, hj, ej, hTj, -, hlj⟩ := act_of hE hpi' hb
        rw [e2] at hlj
        have hl0 : (prS 3 4 s.l).last (k : Int) = some i0 := hl0
        rw [hl0] at hlj
        exact e (Option.some.inj hlj).symm
    | false =>
      have mine := wok_own (a := (s.st : Int)) (R2 := s2.x.R) (d := d) (l2 := s2.l) h.len (fun s0 ha he => .inl (by have q := hG.rb k set false hk hT; rw [show s0 = s.st by omega, owns_end]; show 0 + s.x.R k ≤ bnd set; omega)) (mono ⟨k, set, 0, 0⟩) hr hs' hR
      have e34 : prs 3 4 s2.l = prs 3 4 s.l ++ [⟨k, set, s.st, if d = true then s.st else -1⟩] := by
        rw [hl2]
        have e1 : prS 3 4 (s.l ++ [⟨s.st, k, 3, set⟩]) = _ := prS_beg rfl
        cases d with
        | false =>
          show (prS 3 4 (s.l ++ [⟨s.st, k, 3, set⟩] ++ [])).out = _
          rw [List.append_nil, e1]
          rfl
        | true =>
          show prs 3 4 (s.l ++ [⟨s.st, k, 3, set⟩] ++ [⟨s.st, k, 4, set⟩]) = _
          rw [prs_end (bk := 3) (ek := 4) (z := ⟨s.st, k, 4, set⟩) (i := (prs 3 4 s.l).length) (by show (4 : Int) ≠ 3; omega) rfl (by rw [e1]; exact if_pos rfl)]
          unfold prs at e1 ⊢
          rw [e1]
          apply List.ext_getElem?
          intro j
          rw [List.getElem?_modify]
          by_cases e : j < (prS 3 4 s.l).out.length
          · have e2 : (prs 3 4 s.l).length ≠ j := fun e' => by have e' : (prS 3 4 s.l).out.length = j := e'; omega
            simp only [List.getElem?_append_left e]
            have e3 : (prS 3 4 s.l).out.length ≠ j := by omega
            simp [prs, List.getElem?_append_left e, e3]
          · by_cases e3 : j = (prS 3 4 s.l).out.length
            · subst e3
              simp [prs]
            · rw [List.getElem?_eq_none (by simp [prs]; omega), List.getElem?_eq_none (by simp [prs]; omega)]
              rfl
      rw [e34] at hpi
      rcases get_snoc hpi with ⟨-, rfl⟩ | ⟨-, hpi'⟩
      · exact mine
      · refine old _ i p hpi' (mono p) (fun hb e2 => ?_)
        obtain ⟨j, hj, ej, hTj, -⟩ := act_of hE hpi' hb
        have : j = k := by omega
        subst this
        rw [hT] at hTj
        cases hTj
/-- How many waits there are among the first i events. -/
def wcn (l : List EvR) (i : Nat) : Nat := ((l.take i).filter fun x => decide (x.kind = 3)).length
theorem wcn_yes {x : EvR} (h : l[i]? = some x) (hk : x.kind = 3) : wcn l (i + 1) = wcn l i + 1 := by unfold wcn; rw [take_snoc_ev h, List.filter_append]; simp [hk]
theorem wcn_no {x : EvR} (h : l[i]? = some x) (hk : x.kind ≠ 3) : wcn l (i + 1) = wcn l i := by unfold wcn; rw [take_snoc_ev h, List.filter_append]; simp [hk]
theorem wcn_le (l : List EvR) (i : Nat) : wcn l i ≤ l.length := by unfold wcn; exact Nat.le_trans (List.length_filter_le _ _) (by rw [List.length_take]; omega)
theorem take_out_len (i : Nat) : (prs 3 4 (l.take i)).length = wcn l i := prs_len (by decide) _
/-- A wait that has not responded up to event k. -/
theorem wait_run (h : EvGood l) {x : EvR} (hx : l[i]? = some x) (kx : x.kind = 3) : ∀ m, i + 1 + m ≤ l.length → (∀ (j : Nat) (z : EvR), i < j → j < i + 1 + m → l[j]? = some z → ¬ (z.kind = 4 ∧ z.th = x.th)) →
    evT (l.take (i + 1 + m)) x.th = .wt x.val x.step ∧ (prS 3 4 (l.take (i + 1 + m))).last x.th = some (wcn l i) ∧ (prs 3 4 (l.take (i + 1 + m)))[wcn l i]? = some ⟨x.th, x.val, x.step, -1⟩ := by
  intro m
  induction m with
  | zero =>
    intro _ _
    rw [Nat.add_zero, take_snoc_ev hx]
    refine ⟨?_, ?_, ?_⟩
    · rw [evT_snoc, if_pos rfl]
      unfold EvR.to
      rw [if_neg (by omega), if_pos kx]
    · rw [prS_beg kx]
      show (if x.th = x.th then some (prs 3 4 (l.take i)).length else _) = _
      rw [if_pos rfl, take_out_len]
    · unfold prs
      rw [prS_beg kx]
      show (prs 3 4 (l.take i) ++ _)[_]? = _
      rw [← take_out_len i, List.getElem?_append_right (Nat.le_refl _), Nat.sub_self]
      rfl
  | succ m ih =>
    intro hm hf
    obtain ⟨g1, g2, g3⟩ := ih (by omega) (fun j z h1 h2 => hf j z h1 (by omega))
    obtain ⟨z, hz⟩ : ∃ z, l[i + 1 + m]? = some z := ⟨_, List.getElem?_eq_getElem (by omega)⟩
    have hok := (h.at hz).2.2.1
    have hne : z.th ≠ x.th := fun e => by
      rw [e, g1] at hok
      rcases hok with ⟨-, h2, -⟩ | ⟨-, s, h2⟩ | ⟨-, h2, -⟩ | ⟨h2, -⟩
      · cases h2
      · cases h2
      · cases h2
      · exact hf _ z (by omega) (by omega) hz ⟨h2, e⟩
    have inv := PrInv.of (bk := 3) (ek := 4) (.inr ⟨rfl, rfl⟩) (h.take (i + 1 + m))
    rw [show i + 1 + (m + 1) = i + 1 + m + 1 by omega, take_snoc_ev hz]
    refine ⟨by rw [evT_snoc, if_neg hne]; exact g1, ?_, ?_⟩
    · rw [prS_snoc]
      unfold PrS.step
      split
      · show (if x.th = z.th then _ else _) = _
        rw [if_neg (fun e => hne e.symm)]; exact g2
      · split
        · exact g2
        · exact g2
    · unfold prs at g3 ⊢
      rw [prS_snoc]
      unfold PrS.step
      split
      · show ((prS 3 4 (l.take (i + 1 + m))).out ++ _)[_]? = _
        rw [List.getElem?_append_left (List.getElem?_eq_some_iff.1 g3).1]; exact g3
      · rename_i k3
        split
        · rename_i k4
          cases hl : (prS 3 4 (l.take (i + 1 + m))).last z.th with
          | none => exact g3
          | some j =>
            have hj : j ≠ wcn l i := fun e => by
              rcases z.to_get (bk := 3) (ek := 4) (.inr ⟨rfl, rfl⟩) hok with ⟨hk, -⟩ | ⟨-, -, ⟨s0, q1⟩, -⟩ | ⟨-, hk, -⟩
              · exact k3 hk
              · obtain ⟨j', hj', hp'⟩ := inv.op _ _ _ q1
                rw [hl] at hj'
                obtain rfl := Option.some.inj hj'
                rw [e, g3] at hp'
                simp only [Option.some.injEq, PrR.mk.injEq] at hp'
                exact hne hp'.1.symm
              · exact hk k4
            simp only [List.getElem?_modify, if_neg hj, g3]
            simp
        · exact g3
/-- A wait that has responded stays as it is. -/
theorem wait_stay (h : EvGood l) {a n : Nat} {p : PrR} (hb : 0 ≤ p.b) (hp : (prs 3 4 (l.take a))[n]? = some p) : ∀ m, a + m ≤ l.length → (prs 3 4 (l.take (a + m)))[n]? = some p := by
  intro m
  induction m with
  | zero => intro _; exact hp
  | succ m ih =>
    intro hm
    have g3 := ih (by omega)
    obtain ⟨z, hz⟩ : ∃ z, l[a + m]? = some z := ⟨_, List.getElem?_eq_getElem (by omega)⟩
    have hok := (h.at hz).2.2.1
    have inv := PrInv.of (bk := 3) (ek := 4) (.inr ⟨rfl, rfl⟩) (h.take (a + m))
    rw [show a + (m + 1) = a + m + 1 by omega, take_snoc_ev hz]
    unfold prs at g3 ⊢
    rw [prS_snoc]
    unfold PrS.step
    split
    · show ((prS 3 4 (l.take (a + m))).out ++ _)[_]? = _
      rw [List.getElem?_append_left (List.getElem?_eq_some_iff.1 g3).1]; exact g3
    · rename_i k3
      split
      · rename_i k4
        cases hl : (prS 3 4 (l.take (a + m))).last z.th with
        | none => exact g3
        | some j =>
          have hj : j ≠ n := fun e => by
            rcases z.to_get (bk := 3) (ek := 4) (.inr ⟨rfl, rfl⟩) hok with ⟨hk, -⟩ | ⟨-, -, ⟨s0, q1⟩, -⟩ | ⟨-, hk, -⟩
            · exact k3 hk
            · obtain ⟨j', hj', hp'⟩ := inv.op _ _ _ q1
              rw [hl] at hj'
              obtain rfl := Option.some.inj hj'
              rw [e, g3] at hp'
              obtain rfl := Option.some.inj hp'
              simp only at hb
              omega
            · exact hk k4
          simp only [List.getElem?_modify, if_neg hj, g3]
          simp
      · exact g3
/-- A wait that never responds. -/
theorem wait_open (h : EvGood l) {x : EvR} (hx : l[i]? = some x) (kx : x.kind = 3) (hf : ∀ (j : Nat) (z : EvR), i < j → j < l.length → l[j]? = some z → ¬ (z.kind = 4 ∧ z.th = x.th)) : (prs 3 4 l)[wcn l i]? = some ⟨x.th, x.val, x.step, -1⟩ := by
  have hil := (List.getElem?_eq_some_iff.1 hx).1
  obtain ⟨-, -, g⟩ := wait_run h hx kx (l.length - (i + 1)) (by omega) (fun j z h1 h2 => hf j z h1 (by omega))
  rw [show i + 1 + (l.length - (i + 1)) = l.length by omega, List.take_length] at g
  exact g
/-- A wait that responds. -/
theorem wait_shut (h : EvGood l) {k : Nat} {x y : EvR} (hx : l[i]? = some x) (kx : x.kind = 3) (hik : i < k) (hy : l[k]? = some y) (ky : y.kind = 4) (ht : y.th = x.th) (hf : ∀ (j : Nat) (z : EvR), i < j → j < k → l[j]? = some z → ¬ (z.kind = 4 ∧ z.th = x.th)) : (prs 3 4 l)[wcn l i]? = some ⟨x.th, x.val, x.step, y.step⟩ := by
  have hkl := (List.getElem?_eq_some_iff.1 hy).1
  obtain ⟨-, g2, g3⟩ := wait_run h hx kx (k - (i + 1)) (by omega) (fun j z h1 h2 => hf j z h1 (by omega))
  rw [show i + 1 + (k - (i + 1)) = k by omega] at g2 g3
  have e1 : (prs 3 4 (l.take (k + 1)))[wcn l i]? = some ⟨x.th, x.val, x.step, y.step⟩ := by
    rw [take_snoc_ev hy, prs_end (i := wcn l i) (by omega) ky (by rw [ht]; exact g2)]
    simp only [List.getElem?_modify, g3]
    simp
  have := wait_stay h (p := ⟨x.th, x.val, x.step, y.step⟩) (h.at hy).1.s0 e1 (l.length - (k + 1)) (by omega)
  rw [show k + 1 + (l.length - (k + 1)) = l.length by omega, List.take_length] at this
  exact this
/-- Whether a pair meets a wait that ends at te, from step s0 on. -/
def meetsP (te s0 a b : Int) : Bool := (decide (te < 0) || decide (a ≤ te)) && (decide (b < 0) || decide (s0 ≤ b))
/-- That nothing may hold a wait up from step s0 on. -/
structure QuietP (l : List EvR) (conc : Int → Int → Bool) (wi : Nat) (p : PrR) (s0 : Int) : Prop where
  sec : ∀ q ∈ prs 1 2 l, conc p.val q.val = true → meetsP p.b s0 q.a q.b = false
  wai : ∀ (i : Nat) (q : PrR), (prs 3 4 l)[i]? = some q → i ≠ wi → meetsP p.b s0 q.a q.b = false
/-- The law: a wait that makes more own steps than its bound is not left in quiet. -/
theorem quiet_law (hG : RgG n bnd s) (h : WInv n bnd conc s who) {wi : Nat} (hp : (prs 3 4 s.l)[wi]? = some p) {s0 : Nat} (ha : p.a ≤ s0) (he : s0 ≤ wEnd p s.st) (hq : QuietP s.l conc wi p s0) : owns who p.th s0 (wEnd p s.st) ≤ bnd p.val := by
  rcases h.ok wi p hp s0 ha he with q | ⟨t, t1, t2, t3⟩
  · omega
  · exfalso
    have hte : p.b < 0 ∨ (t : Int) ≤ p.b := by
      unfold wEnd at t2
      split at t2
      · exact .inl (by assumption)
      · exact .inr (by omega)
    have hm : ∀ q : PrR, q.a ≤ t → (q.b < 0 ∨ (t : Int) ≤ q.b) → meetsP p.b s0 q.a q.b = true := fun q h1 h2 => by
      unfold meetsP
      simp only [Bool.and_eq_true, Bool.or_eq_true, decide_eq_true_eq]
      exact ⟨hte.imp id (fun e => by omega), h2.imp id (fun e => by omega)⟩
    rcases t3 with ⟨q, hq1, hq2, hq3, hq4⟩ | ⟨q, hq1, hq2, hq3, hq4⟩
    · have := hq.sec q hq1 hq2
      rw [hm q hq3 hq4] at this
      cases this
    · obtain ⟨i, hi⟩ := List.getElem?_of_mem hq1
      have := hq.wai i q hi (fun e => by
        subst e
        rw [hp] at hi
        obtain rfl := Option.some.inj hi
        exact hq2 rfl)
      rw [hm q hq3 hq4] at this
      cases this
/-- At the beginning there is no wait. -/
theorem WInv.zero (hl : s.l = []) (hst : s.st = 0) : WInv n bnd conc s [] := ⟨by rw [hst]; rfl, fun i p hp => by rw [hl] at hp; simp [prs, prS] at hp⟩
end
end Go.Lf
