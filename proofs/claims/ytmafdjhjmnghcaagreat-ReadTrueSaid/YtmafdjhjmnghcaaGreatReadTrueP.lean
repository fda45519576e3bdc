/- read: what a read returns was so at some moment of it. Plain. -/
import Derived.Test.YtmafdjhjmnghcaaGreatReadQP
set_option linter.unusedVariables false
set_option linter.unusedSimpArgs false
namespace Go.Lf
/-- What can be seen of a tower: its state, value, alternative value, and the descriptors. -/
structure Vw where
  S : Int
  v : Int
  a : Int
  d : Nat → Int
/-- What a view shows. -/
def Vw.shown (lk : Int) (x : Vw) : Int × Bool :=
  if fOk x.S = true ∧ fEntry x.S < lk then
    let d := if fKind x.S = 0 ∨ fKind x.S = 1 ∨ fKind x.S = 2 then 0 else x.d (fEntry x.S).toNat
    if (fDecide x.S d).2.2 ≠ 0 ∨ (fDecide x.S d).1 = false then (0, false) else ((if (fDecide x.S d).2.1 = true then x.a else x.v), true)
  else (0, false)
/-- A store of a writer. -/
inductive WSt where
  | S (x : Int)
  | V (x : Int)
  | A (x : Int)
  | D (e : Nat) (x : Int)
def Vw.put (x : Vw) : WSt → Vw
  | .S y => { x with S := y }
  | .V y => { x with v := y }
  | .A y => { x with a := y }
  | .D e y => { x with d := fun k => if k = e then y else x.d k }
/-- A view that may be. -/
structure Vw.ok (n : Int) (x : Vw) : Prop where
  ok : fOk x.S = true
  en : fEntry x.S < n
  rg : 3 ≤ fKind x.S → 2 * fGen x.S ≤ x.d (fEntry x.S).toNat
  db : ∀ e, 0 ≤ x.d e ∧ x.d e ≤ 1000000
/-- A store that may be next. -/
structure Vw.may (n : Int) (x : Vw) (st : WSt) : Prop where
  mono : ∀ e, x.d e ≤ (x.put st).d e
  val : ∀ y, st = .V y → (x.put st).shown n = (y, true)
  und : 3 ≤ fKind x.S → x.d (fEntry x.S).toNat = 2 * fGen x.S → st = .D (fEntry x.S).toNat (2 * fGen x.S + 1)
  swp : ∀ y, st = .S y → fKind y = 5 → x.d (fEntry y).toNat = 2 * fGen y
def WOk (n : Int) : Vw → List WSt → Prop
  | x, [] => x.ok n
  | x, st :: l => x.ok n ∧ x.may n st ∧ WOk n (x.put st) l
theorem WOk.ok {n : Int} {x : Vw} {l : List WSt} (h : WOk n x l) : x.ok n := by
  cases l with
  | nil => exact h
  | cons st l => exact h.1
section
variable {n : Int} {x : Vw}
theorem fDec_eq {s d : Int} (h : 2 * fGen s ≤ d) : fDec s d = !decide (d = 2 * fGen s) := by
  unfold fDec
  by_cases e : d = 2 * fGen s
  · subst e
    have h1 : 2 * fGen s / 2 = fGen s := by omega
    have h2 : ¬ (2 * fGen s % 2 = 1) := by omega
    simp [h1, h2]
  · have : ¬ (d / 2 = fGen s) ∨ d % 2 = 1 := by omega
    simp [e]
    omega
theorem Vw.shown_k (h : x.ok n) : (fKind x.S = 0 → x.shown n = (0, false)) ∧ (fKind x.S = 1 → x.shown n = (x.v, true)) ∧ (fKind x.S = 2 → x.shown n = (0, false)) := by
  have h0 := h.ok
  have e1 : ∀ d, d = 0 → ¬ (fOk x.S = false ∨ 1099511627775 < d / 2) := fun d hd => by rw [h0]; subst hd; simp
  refine ⟨fun k => ?_, fun k => ?_, fun k => ?_⟩
  all_goals
    unfold Vw.shown fDecide
    rw [if_pos ⟨h.ok, h.en⟩]
    simp [h0, k]
theorem fDecide_k {s d : Int} (h0 : fOk s = true) (hd : ¬ (1099511627775 < d / 2)) : (fKind s = 3 → fDecide s d = (fDec s d, false, 0)) ∧ (fKind s = 4 → fDecide s d = (!fDec s d, false, 0)) ∧ (fKind s = 5 → fDecide s d = (true, fDec s d, 0)) := by
  have hne : ¬ (fOk s = false ∨ 1099511627775 < d / 2) := fun e => e.elim (fun e => by rw [h0] at e; cases e) hd
  refine ⟨fun k => ?_, fun k => ?_, fun k => ?_⟩
  all_goals
    unfold fDecide
    rw [if_neg hne, k]
    rfl
theorem Vw.shown_ge (h : x.ok n) (k : 3 ≤ fKind x.S) : x.shown n = (if (fDecide x.S (x.d (fEntry x.S).toNat)).2.2 ≠ 0 ∨ (fDecide x.S (x.d (fEntry x.S).toNat)).1 = false then (0, false) else ((if (fDecide x.S (x.d (fEntry x.S).toNat)).2.1 = true then x.a else x.v), true)) := by
  unfold Vw.shown
  rw [if_pos ⟨h.ok, h.en⟩, if_neg (show ¬ (fKind x.S = 0 ∨ fKind x.S = 1 ∨ fKind x.S = 2) by omega)]
theorem Vw.shown_3 (h : x.ok n) (k : fKind x.S = 3) : x.shown n = if x.d (fEntry x.S).toNat = 2 * fGen x.S then (0, false) else (x.v, true) := by
  have h1 := h.db (fEntry x.S).toNat
  have h2 := fDec_eq (h.rg (by omega))
  rw [Vw.shown_ge h (by omega), (fDecide_k h.ok (show ¬ (1099511627775 < x.d (fEntry x.S).toNat / 2) by omega)).1 k, h2]
  by_cases e : x.d (fEntry x.S).toNat = 2 * fGen x.S
  · rw [if_pos e, decide_eq_true e]; rfl
  · rw [if_neg e, decide_eq_false e]; rfl
theorem Vw.shown_4 (h : x.ok n) (k : fKind x.S = 4) : x.shown n = if x.d (fEntry x.S).toNat = 2 * fGen x.S then (x.v, true) else (0, false) := by
  have h1 := h.db (fEntry x.S).toNat
  have h2 := fDec_eq (h.rg (by omega))
  rw [Vw.shown_ge h (by omega), (fDecide_k h.ok (show ¬ (1099511627775 < x.d (fEntry x.S).toNat / 2) by omega)).2.1 k, h2]
  by_cases e : x.d (fEntry x.S).toNat = 2 * fGen x.S
  · rw [if_pos e, decide_eq_true e]; rfl
  · rw [if_neg e, decide_eq_false e]; rfl
theorem Vw.shown_5 (h : x.ok n) (k : fKind x.S = 5) : x.shown n = if x.d (fEntry x.S).toNat = 2 * fGen x.S then (x.v, true) else (x.a, true) := by
  have h1 := h.db (fEntry x.S).toNat
  have h2 := fDec_eq (h.rg (by omega))
  rw [Vw.shown_ge h (by omega), (fDecide_k h.ok (show ¬ (1099511627775 < x.d (fEntry x.S).toNat / 2) by omega)).2.2 k, h2]
  by_cases e : x.d (fEntry x.S).toNat = 2 * fGen x.S
  · rw [if_pos e, decide_eq_true e]; rfl
  · rw [if_neg e, decide_eq_false e]; rfl
end
/-- The word that a step loads. -/
def Vw.word (x : Vw) (s : RS) : Int := if s.next = 24 then x.d (fEntry s.state).toNat else if s.next = 25 then x.v else if s.next = 26 then x.a else x.S
/-- What is known of a read at a view: sn are the values that were seen, gn: it was seen absent. -/
structure RI (n : Int) (x : Vw) (sn : List Int) (gn : Prop) (s : RS) : Prop where
  i25 : s.next = 25 → x.v ∈ sn ∨ x.shown n = (x.v, true)
  i24 : s.next = 24 → fOk s.state = true ∧ 3 ≤ fKind s.state ∧ 2 * fGen s.state ≤ x.d (fEntry s.state).toNat ∧ (x.d (fEntry s.state).toNat = 2 * fGen s.state → x.S = s.state) ∧
    (x.d (fEntry s.state).toNat ≠ 2 * fGen s.state → (fKind s.state = 3 → x.v ∈ sn ∨ x.shown n = (x.v, true)) ∧ (fKind s.state = 4 → gn ∨ (x.shown n).2 = false))
  i26 : s.next = 26 → fOk s.state = true ∧ fKind s.state = 5 ∧ 2 * fGen s.state < x.d (fEntry s.state).toNat
  i27 : s.next = 27 → fOk s.state = true ∧ fKind s.state = 5 ∧ 2 * fGen s.state < x.d (fEntry s.state).toNat ∧ (x.S = s.state → s.value ∈ sn)
/-- A moment is seen. -/
structure SeenBy (n : Int) (x : Vw) (sn : List Int) (gn : Prop) (sn' : List Int) (gn' : Prop) : Prop where
  old : ∀ v ∈ sn, v ∈ sn'
  gold : gn → gn'
  now : (x.shown n).2 = true → (x.shown n).1 ∈ sn'
  gnow : (x.shown n).2 = false → gn'
section
variable {n : Int} {x : Vw} {sn sn' : List Int} {gn gn' : Prop} {s : RS}
theorem Vw.put_v (st : WSt) : (x.put st).v = x.v ∨ ∃ y, st = .V y ∧ (x.put st).v = y := by
  cases st with
  | V y => exact .inr ⟨y, rfl, rfl⟩
  | S y => exact .inl rfl
  | A y => exact .inl rfl
  | D e y => exact .inl rfl
theorem seen_v {st : WSt} (hs : SeenBy n x sn gn sn' gn') (hm : x.may n st) (h : x.v ∈ sn ∨ x.shown n = (x.v, true)) : (x.put st).v ∈ sn' ∨ (x.put st).shown n = ((x.put st).v, true) := by
  rcases Vw.put_v (x := x) st with e | ⟨y, rfl, e⟩
  · rw [e]
    refine .inl (h.elim (hs.old _) fun h => ?_)
    have := hs.now (by rw [h])
    rwa [h] at this
  · rw [e]; exact .inr (hm.val y rfl)
/-- The writer makes a store. -/
theorem RI.write {st : WSt} {l : List WSt} (h : RI n x sn gn s) (hw : WOk n x (st :: l)) (hs : SeenBy n x sn gn sn' gn') : RI n (x.put st) sn' gn' s := by
  obtain ⟨ho, hm, hw2⟩ := hw
  have ho2 := hw2.ok
  refine ⟨fun e => seen_v hs hm (h.i25 e), fun e => ?_, fun e => ?_, fun e => ?_⟩
  · obtain ⟨h1, h2, h3, h4, h5⟩ := h.i24 e
    have hmo := hm.mono (fEntry s.state).toNat
    refine ⟨h1, h2, by omega, fun e2 => ?_, fun e2 => ?_⟩
    · have e3 : x.d (fEntry s.state).toNat = 2 * fGen s.state := by omega
      have e4 := h4 e3
      have := hm.und (by rw [e4]; exact h2) (by rw [e4]; exact e3)
      rw [this] at e2
      simp only [Vw.put, e4, if_true] at e2
      omega
    · by_cases e3 : x.d (fEntry s.state).toNat = 2 * fGen s.state
      · have e4 := h4 e3
        have e5 := hm.und (by rw [e4]; exact h2) (by rw [e4]; exact e3)
        have e6 : (x.put st).S = s.state := by rw [e5]; exact e4
        refine ⟨fun k => .inr ?_, fun k => .inr ?_⟩
        · rw [Vw.shown_3 ho2 (by rw [e6]; exact k), e6, if_neg e2]
        · rw [Vw.shown_4 ho2 (by rw [e6]; exact k), e6, if_neg e2]
      · obtain ⟨h6, h7⟩ := h5 e3
        refine ⟨fun k => seen_v hs hm (h6 k), fun k => .inl ?_⟩
        exact (h7 k).elim hs.gold hs.gnow
  · obtain ⟨h1, h2, h3⟩ := h.i26 e
    have hmo := hm.mono (fEntry s.state).toNat
    exact ⟨h1, h2, by omega⟩
  · obtain ⟨h1, h2, h3, h4⟩ := h.i27 e
    have hmo := hm.mono (fEntry s.state).toNat
    refine ⟨h1, h2, by omega, fun e2 => ?_⟩
    by_cases e3 : x.S = s.state
    · exact hs.old _ (h4 e3)
    · exfalso
      cases st with
      | S y =>
        have e4 : y = s.state := e2
        have := hm.swp y rfl (by rw [e4]; exact h2)
        rw [e4] at this
        omega
      | V y => exact e3 e2
      | A y => exact e3 e2
      | D e y => exact e3 e2
/-- Nothing is stored. -/
theorem RI.still (h : RI n x sn gn s) (hs : SeenBy n x sn gn sn' gn') : RI n x sn' gn' s := by
  have hv : (x.v ∈ sn ∨ x.shown n = (x.v, true)) → (x.v ∈ sn' ∨ x.shown n = (x.v, true)) := fun h => h.elim (fun h => .inl (hs.old _ h)) .inr
  refine ⟨fun e => hv (h.i25 e), fun e => ?_, h.i26, fun e => ?_⟩
  · obtain ⟨h1, h2, h3, h4, h5⟩ := h.i24 e
    exact ⟨h1, h2, h3, h4, fun e2 => ⟨fun k => hv ((h5 e2).1 k), fun k => ((h5 e2).2 k).elim (fun h => .inl (hs.gold h)) .inr⟩⟩
  · obtain ⟨h1, h2, h3, h4⟩ := h.i27 e
    exact ⟨h1, h2, h3, fun e2 => hs.old _ (h4 e2)⟩
/-- What is claimed of a read behind a step. -/
def REnd (n : Int) (x : Vw) (sn : List Int) (gn : Prop) (s : RS) : Prop :=
  if s.ended = true then (s.err = 0 ∧ (s.present = true → s.value ∈ sn) ∧ (s.present = false → gn)) ∨ (s.err = 11 ∧ s.value = 0 ∧ s.present = false)
  else s.next ≠ 23 ∧ RI n x sn gn s
theorem REnd.by (ho : x.ok n) (hs : SeenBy n x sn gn sn' gn') (he : s.ended = false) (her : s.err = 0) : REnd n x sn' gn' (s.by n x.S) := by
  have hb : byKind n x.S = fKind x.S := if_pos ⟨ho.ok, ho.en⟩
  obtain ⟨g0, g1, g2⟩ := Vw.shown_k ho
  unfold RS.by
  rw [hb]
  split
  · rename_i h
    unfold REnd
    rw [if_pos (show RS.ended (RS.fin { s with state := x.S } 0 false) = true from rfl)]
    refine .inl ⟨her, fun e => (by cases e), fun _ => hs.gnow ?_⟩
    rcases h with h | h
    · rw [g0 h]
    · rw [g2 h]
  · rename_i h
    split
    · rename_i h1
      unfold REnd
      rw [if_neg (by show ¬ (s.ended = true); rw [he]; decide)]
      refine ⟨by show (25 : Int) ≠ 23; decide, fun _ => .inr (g1 h1), fun e => absurd e (by show ¬ ((25 : Int) = 24); decide), fun e => absurd e (by show ¬ ((25 : Int) = 26); decide), fun e => absurd e (by show ¬ ((25 : Int) = 27); decide)⟩
    · rename_i h1
      unfold REnd
      rw [if_neg (by show ¬ (s.ended = true); rw [he]; decide)]
      have hk := fOk_kind ho.ok
      have hk3 : 3 ≤ fKind x.S := by omega
      refine ⟨by show (24 : Int) ≠ 23; decide, fun e => absurd e (by show ¬ ((24 : Int) = 25); decide), fun e => ?_, fun e => absurd e (by show ¬ ((24 : Int) = 26); decide), fun e => absurd e (by show ¬ ((24 : Int) = 27); decide)⟩
      refine ⟨ho.ok, hk3, ho.rg hk3, fun _ => rfl, fun e2 => ⟨fun k => .inr ?_, fun k => .inr ?_⟩⟩
      · rw [Vw.shown_3 ho k, if_neg e2]
      · rw [Vw.shown_4 ho k, if_neg e2]
/-- The reader makes a step. -/
theorem RI.step (h : RI n x sn gn s) (ho : x.ok n) (hg : s.good n) (her : s.err = 0) (hs : SeenBy n x sn gn sn' gn') : REnd n x sn' gn' (s.step n (x.word s)) := by
  have he := hg.ended
  have hfin : ∀ (s : RS) v p, s.err = 0 → (p = true → v ∈ sn') → (p = false → gn') → REnd n x sn' gn' (s.fin v p) := fun s v p h0 h1 h2 => by
    unfold REnd
    rw [if_pos (show (s.fin v p).ended = true from rfl)]
    exact .inl ⟨h0, h1, h2⟩
  have hv : (x.v ∈ sn ∨ x.shown n = (x.v, true)) → x.v ∈ sn' := fun h => h.elim (hs.old _) fun h => by
    have := hs.now (by rw [h])
    rwa [h] at this
  rcases hg.nx with e | e | e | e | e
  · have : x.word s = x.S := by unfold Vw.word; rw [e]; rfl
    rw [this]
    unfold RS.step
    rw [if_pos e]
    exact REnd.by ho hs he her
  · have : x.word s = x.d (fEntry s.state).toNat := by unfold Vw.word; rw [e]; rfl
    rw [this]
    obtain ⟨h1, h2, h3, h4, h5⟩ := h.i24 e
    have hdb := ho.db (fEntry s.state).toNat
    have hdec := fDec_eq h3
    have hne : ¬ (fOk s.state = false ∨ 1099511627775 < x.d (fEntry s.state).toNat / 2) := by
      rw [h1]; simp; omega
    unfold RS.step
    rw [if_neg (by omega), if_pos e]
    have hk := fOk_kind h1
    obtain ⟨d, hd⟩ : ∃ d, d = x.d (fEntry s.state).toNat := ⟨_, rfl⟩
    rw [← hd] at h3 h4 h5 hdec hne ⊢
    have hk' : fKind s.state = 3 ∨ fKind s.state = 4 ∨ fKind s.state = 5 := by omega
    rcases hk' with k | k | k
    · have hD : fDecide s.state d = (fDec s.state d, false, 0) := by unfold fDecide; rw [if_neg hne, k]; rfl
      rw [hD, hdec]
      by_cases e3 : d = 2 * fGen s.state
      · rw [if_pos (.inr (by simp [e3]))]
        refine hfin _ _ _ her (fun e => (by cases e)) fun _ => hs.gnow ?_
        have e4 := h4 e3
        rw [Vw.shown_3 ho (by rw [e4]; exact k), e4, ← hd, if_pos e3]
      · rw [if_neg (by simp [e3]), if_neg (by simp)]
        unfold REnd
        rw [if_neg (by show ¬ (s.ended = true); rw [he]; decide)]
        refine ⟨by show (25 : Int) ≠ 23; decide, fun _ => .inl (hv ((h5 e3).1 k)), fun e => absurd e (by show ¬ ((25 : Int) = 24); decide), fun e => absurd e (by show ¬ ((25 : Int) = 26); decide), fun e => absurd e (by show ¬ ((25 : Int) = 27); decide)⟩
    · have hD : fDecide s.state d = (!fDec s.state d, false, 0) := by unfold fDecide; rw [if_neg hne, k]; rfl
      rw [hD, hdec]
      by_cases e3 : d = 2 * fGen s.state
      · rw [if_neg (by simp [e3]), if_neg (by simp)]
        unfold REnd
        rw [if_neg (by show ¬ (s.ended = true); rw [he]; decide)]
        refine ⟨by show (25 : Int) ≠ 23; decide, fun _ => .inr ?_, fun e => absurd e (by show ¬ ((25 : Int) = 24); decide), fun e => absurd e (by show ¬ ((25 : Int) = 26); decide), fun e => absurd e (by show ¬ ((25 : Int) = 27); decide)⟩
        have e4 := h4 e3
        rw [Vw.shown_4 ho (by rw [e4]; exact k), e4, ← hd, if_pos e3]
      · rw [if_pos (.inr (by simp [e3]))]
        exact hfin _ _ _ her (fun e => (by cases e)) fun _ => ((h5 e3).2 k).elim hs.gold hs.gnow
    · have hD : fDecide s.state d = (true, fDec s.state d, 0) := by unfold fDecide; rw [if_neg hne, k]; rfl
      rw [hD, hdec]
      by_cases e3 : d = 2 * fGen s.state
      · rw [if_neg (by simp), if_neg (by simp [e3])]
        unfold REnd
        rw [if_neg (by show ¬ (s.ended = true); rw [he]; decide)]
        refine ⟨by show (25 : Int) ≠ 23; decide, fun _ => .inr ?_, fun e => absurd e (by show ¬ ((25 : Int) = 24); decide), fun e => absurd e (by show ¬ ((25 : Int) = 26); decide), fun e => absurd e (by show ¬ ((25 : Int) = 27); decide)⟩
        have e4 := h4 e3
        rw [Vw.shown_5 ho (by rw [e4]; exact k), e4, ← hd, if_pos e3]
      · rw [if_neg (by simp), if_pos (by simp [e3])]
        unfold REnd
        rw [if_neg (by show ¬ (s.ended = true); rw [he]; decide)]
        exact ⟨by show (26 : Int) ≠ 23; decide, fun e => absurd e (by show ¬ ((26 : Int) = 25); decide), fun e => absurd e (by show ¬ ((26 : Int) = 24); decide), fun _ => ⟨h1, k, by show 2 * fGen s.state < x.d (fEntry s.state).toNat; omega⟩, fun e => absurd e (by show ¬ ((26 : Int) = 27); decide)⟩
  · have : x.word s = x.v := by unfold Vw.word; rw [e]; rfl
    rw [this]
    unfold RS.step
    rw [if_neg (by omega), if_neg (by omega), if_pos e]
    exact hfin _ _ _ her (fun _ => hv (h.i25 e)) (fun e => (by cases e))
  · have : x.word s = x.a := by unfold Vw.word; rw [e]; rfl
    rw [this]
    obtain ⟨h1, h2, h3⟩ := h.i26 e
    unfold RS.step
    rw [if_neg (by omega), if_neg (by omega), if_neg (by omega), if_pos e]
    unfold REnd
    rw [if_neg (by show ¬ (s.ended = true); rw [he]; decide)]
    refine ⟨by show (27 : Int) ≠ 23; decide, fun e => absurd e (by show ¬ ((27 : Int) = 25); decide), fun e => absurd e (by show ¬ ((27 : Int) = 24); decide), fun e => absurd e (by show ¬ ((27 : Int) = 26); decide), fun _ => ⟨h1, h2, h3, fun e2 => ?_⟩⟩
    have e2' : x.S = s.state := e2
    have := Vw.shown_5 ho (by rw [e2']; exact h2)
    rw [e2', if_neg (by omega)] at this
    have h4 := hs.now (by rw [this])
    rwa [this] at h4
  · have : x.word s = x.S := by unfold Vw.word; rw [e]; rfl
    rw [this]
    obtain ⟨h1, h2, h3, h4⟩ := h.i27 e
    unfold RS.step
    rw [if_neg (by omega), if_neg (by omega), if_neg (by omega), if_neg (by omega)]
    split
    · rename_i e2
      exact hfin _ _ _ her (fun _ => hs.old _ (h4 e2)) (fun e => (by cases e))
    · split
      · unfold REnd
        rw [if_pos (show (RS.fin { s with fails := s.fails + 1, err := 11 } 0 false).ended = true from rfl)]
        exact .inr ⟨rfl, rfl, rfl⟩
      · exact REnd.by (s := { s with fails := s.fails + 1, value := 0 }) ho hs he her
end
/-- The words of states. -/
def swapW (e g : Int) : Int := 5 + 8 * e + 65536 * g
def goneW (e g : Int) : Int := 4 + 8 * e + 65536 * g
theorem swap_f {e g : Int} (e0 : 0 ≤ e) (e1 : e < 16) (g0 : 0 ≤ g) (g1 : g ≤ 1000) : fOk (swapW e g) = true ∧ fKind (swapW e g) = 5 ∧ fEntry (swapW e g) = e ∧ fGen (swapW e g) = g := by
  have h1 : fKind (swapW e g) = 5 := by unfold fKind swapW; omega
  have h2 : fEntry (swapW e g) = e := by unfold fEntry swapW; omega
  have h3 : fGen (swapW e g) = g := by unfold fGen swapW; omega
  refine ⟨?_, h1, h2, h3⟩
  unfold fOk fValid
  rw [h1, h2, h3]
  simp
  omega
theorem gone_f {e g : Int} (e0 : 0 ≤ e) (e1 : e < 16) (g0 : 0 ≤ g) (g1 : g ≤ 1000) : fOk (goneW e g) = true ∧ fKind (goneW e g) = 4 ∧ fEntry (goneW e g) = e ∧ fGen (goneW e g) = g := by
  have h1 : fKind (goneW e g) = 4 := by unfold fKind goneW; omega
  have h2 : fEntry (goneW e g) = e := by unfold fEntry goneW; omega
  have h3 : fGen (goneW e g) = g := by unfold fGen goneW; omega
  refine ⟨?_, h1, h2, h3⟩
  unfold fOk fValid
  rw [h1, h2, h3]
  simp
  omega
/-- The generations behind a deed with an entry. -/
def upd (g : Nat → Int) (e : Nat) : Nat → Int := fun k => if k = e then g e + 1 else g k
/-- What a writer does: kind, entry, value. -/
structure DeedP where
  kind : Int
  entry : Nat
  val : Int
/-- The stores of deeds. -/
def deedsP (g : Nat → Int) : List DeedP → List WSt
  | [] => []
  | x :: l =>
    if x.kind = 0 then .V x.val :: deedsP g l
    else if x.kind = 3 then [.S (goneW x.entry (g x.entry)), .D x.entry (2 * g x.entry + 1), .S 2, .D x.entry (2 * (g x.entry + 1))]
    else .A x.val :: .S (swapW x.entry (g x.entry)) :: .D x.entry (2 * g x.entry + 1) :: .V x.val :: .S 1 :: .D x.entry (2 * (g x.entry + 1)) :: deedsP (upd g x.entry) l
def bornP (l : List DeedP) : List WSt := .D 0 1 :: .S 1 :: .D 0 2 :: deedsP (upd (fun _ => 0) 0) l
section
variable {n : Int}
theorem k1 : fOk 1 = true ∧ fKind 1 = 1 ∧ fEntry 1 = 0 := by decide
theorem k2 : fOk 2 = true ∧ fKind 2 = 2 ∧ fEntry 2 = 0 := by decide
theorem k3 : fOk 3 = true ∧ fKind 3 = 3 ∧ fEntry 3 = 0 ∧ fGen 3 = 0 := by decide
theorem ok_low {x : Vw} (hn : 1 ≤ n) (hS : x.S = 1 ∨ x.S = 2) (hd : ∀ e, 0 ≤ x.d e ∧ x.d e ≤ 1000000) : x.ok n := by
  rcases hS with h | h
  · exact ⟨by rw [h]; exact k1.1, by rw [h, k1.2.2]; omega, fun e => by rw [h, k1.2.1] at e; omega, hd⟩
  · exact ⟨by rw [h]; exact k2.1, by rw [h, k2.2.2]; omega, fun e => by rw [h, k2.2.1] at e; omega, hd⟩
/-- A store to a live tower's value, or to what is not looked at. -/
theorem may_d {x : Vw} {e : Nat} {y : Int} (h : x.d e ≤ y) (hu : 3 ≤ fKind x.S → x.d (fEntry x.S).toNat = 2 * fGen x.S → (fEntry x.S).toNat = e ∧ 2 * fGen x.S + 1 = y) : x.may n (.D e y) := by
  refine ⟨fun k => ?_, fun y e => (by cases e), fun a b => ?_, fun y e => (by cases e)⟩
  · show x.d k ≤ if k = e then y else x.d k
    split
    · rename_i e2; subst e2; exact h
    · exact Int.le_refl _
  · obtain ⟨h1, h2⟩ := hu a b
    rw [h1, h2]
theorem may_s {x : Vw} {y : Int} (hu : 3 ≤ fKind x.S → x.d (fEntry x.S).toNat ≠ 2 * fGen x.S) (hs : fKind y = 5 → x.d (fEntry y).toNat = 2 * fGen y) : x.may n (.S y) :=
  ⟨fun k => Int.le_refl _, fun y e => (by cases e), fun a b => absurd b (hu a), fun z e => by cases e; exact hs⟩
theorem may_a {x : Vw} {y : Int} (hu : 3 ≤ fKind x.S → x.d (fEntry x.S).toNat ≠ 2 * fGen x.S) : x.may n (.A y) :=
  ⟨fun k => Int.le_refl _, fun y e => (by cases e), fun a b => absurd b (hu a), fun z e => (by cases e)⟩
theorem may_v {x : Vw} {y : Int} (hu : 3 ≤ fKind x.S → x.d (fEntry x.S).toNat ≠ 2 * fGen x.S) (hv : (x.put (.V y)).shown n = (y, true)) : x.may n (.V y) :=
  ⟨fun k => Int.le_refl _, fun z e => by cases e; exact hv, fun a b => absurd b (hu a), fun z e => (by cases e)⟩
theorem deeds_ok (hn : 1 ≤ n) (hn2 : n ≤ 16) : ∀ (l : List DeedP) (g : Nat → Int) (x : Vw), x.S = 1 → (∀ e, x.d e = 2 * g e) → (∀ e, 0 ≤ g e ∧ g e + l.length ≤ 1000) → (∀ y ∈ l, (y.entry : Int) < n) → WOk n x (deedsP g l) := by
  intro l
  induction l with
  | nil =>
    intro g x hS hd hg hl
    exact ok_low hn (.inl hS) fun e => by have := hg e; rw [hd e]; simp at this; omega
  | cons y l ih =>
    intro g x hS hd hg hl
    have hb : ∀ e, 0 ≤ g e ∧ g e + 1 + l.length ≤ 1000 := fun e => by have := hg e; simp at this; omega
    have he := hl y (List.mem_cons_self ..)
    have hk : ¬ (3 ≤ fKind x.S) := by rw [hS, k1.2.1]; omega
    have ho : x.ok n := ok_low hn (.inl hS) fun e => by have := hb e; rw [hd e]; omega
    have hge := hb y.entry
    rw [deedsP]
    split
    · refine ⟨ho, may_v (fun h => absurd h hk) ?_, ih g _ hS hd (fun e => by have := hb e; omega) (fun z hz => hl z (List.mem_cons_of_mem _ hz))⟩
      have ho2 : (x.put (.V y.val)).ok n := ok_low hn (.inl hS) fun e => by have := hb e; show 0 ≤ x.d e ∧ x.d e ≤ 1000000; rw [hd e]; omega
      exact (Vw.shown_k ho2).2.1 (by show fKind x.S = 1; rw [hS]; exact k1.2.1)
    · obtain ⟨e, hE⟩ : ∃ e, e = y.entry := ⟨_, rfl⟩
      rw [← hE] at he hge ⊢
      have hde := hd e
      split
      · obtain ⟨f1, f2, f3, f4⟩ := gone_f (e := e) (g := g e) (by omega) (by omega) (by omega) (by omega)
        have hx1 : (x.put (.S (goneW e (g e)))).S = goneW e (g e) := rfl
        refine ⟨ho, may_s (fun h => absurd h hk) (fun h => by rw [f2] at h; omega), ⟨?_, ?_, ?_, ?_⟩, may_d ?_ ?_, ?_⟩
        · exact f1
        · show fEntry (goneW e (g e)) < n; rw [f3]; omega
        · intro _; show 2 * fGen (goneW e (g e)) ≤ x.d (fEntry (goneW e (g e))).toNat; rw [f3, f4, Int.toNat_natCast, hde]; omega
        · intro k; show 0 ≤ x.d k ∧ x.d k ≤ 1000000; have := hb k; rw [hd k]; omega
        · show x.d e ≤ _; omega
        · intro _ _; show (fEntry (goneW e (g e))).toNat = e ∧ 2 * fGen (goneW e (g e)) + 1 = _; rw [f3, f4]; exact ⟨Int.toNat_natCast _, rfl⟩
        · have hd2 : ∀ k, 0 ≤ (if k = e then 2 * g e + 1 else x.d k) ∧ (if k = e then 2 * g e + 1 else x.d k) ≤ 1000000 := fun k => by
            split
            · omega
            · have := hb k; rw [hd k]; omega
          refine ⟨⟨f1, by show fEntry (goneW e (g e)) < n; rw [f3]; omega, fun _ => ?_, hd2⟩, may_s (fun _ => ?_) (fun h => absurd h (by decide)), ok_low hn (.inr rfl) hd2, may_d ?_ (fun h => absurd h (by show ¬ (3 ≤ fKind 2); decide)), ?_⟩
          · show 2 * fGen (goneW e (g e)) ≤ if (fEntry (goneW e (g e))).toNat = e then 2 * g e + 1 else x.d (fEntry (goneW e (g e))).toNat
            rw [f3, f4, Int.toNat_natCast, if_pos rfl]; omega
          · show ¬ ((if (fEntry (goneW e (g e))).toNat = e then 2 * g e + 1 else x.d (fEntry (goneW e (g e))).toNat) = 2 * fGen (goneW e (g e)))
            rw [f3, f4, Int.toNat_natCast, if_pos rfl]; omega
          · show (if e = e then 2 * g e + 1 else x.d e) ≤ _; rw [if_pos rfl]; omega
          · refine ok_low hn (.inr rfl) fun k => ?_
            show 0 ≤ (if k = e then 2 * (g e + 1) else if k = e then 2 * g e + 1 else x.d k) ∧ (if k = e then 2 * (g e + 1) else if k = e then 2 * g e + 1 else x.d k) ≤ 1000000
            split
            · omega
            · have := hb k; rw [hd k]; omega
      · obtain ⟨f1, f2, f3, f4⟩ := swap_f (e := e) (g := g e) (by omega) (by omega) (by omega) (by omega)
        have hd2 : ∀ k, 0 ≤ (if k = e then 2 * g e + 1 else x.d k) ∧ (if k = e then 2 * g e + 1 else x.d k) ≤ 1000000 := fun k => by
          split
          · omega
          · have := hb k; rw [hd k]; omega
        have hdx : ∀ k, 0 ≤ x.d k ∧ x.d k ≤ 1000000 := fun k => by have := hb k; rw [hd k]; omega
        have q1 : ∀ {z : Vw}, z.S = swapW e (g e) → z.d = x.d → z.ok n := fun {z} h1 h2 => ⟨by rw [h1]; exact f1, by rw [h1, f3]; omega, fun _ => by rw [h1, h2, f3, f4, Int.toNat_natCast, hde]; omega, fun k => by rw [h2]; exact hdx k⟩
        have q2 : ∀ {z : Vw}, z.S = swapW e (g e) → (z.d = fun k => if k = e then 2 * g e + 1 else x.d k) → z.ok n ∧ z.d (fEntry z.S).toNat ≠ 2 * fGen z.S := fun {z} h1 h2 => by
          have h3 : z.d (fEntry z.S).toNat = 2 * g e + 1 := by rw [h1, h2, f3, Int.toNat_natCast]; exact if_pos rfl
          have h4 : fGen z.S = g e := by rw [h1, f4]
          exact ⟨⟨by rw [h1]; exact f1, by rw [h1, f3]; omega, fun _ => by rw [h3, h4]; omega, fun k => by rw [h2]; exact hd2 k⟩, by rw [h3, h4]; omega⟩
        have q2s : ∀ {z : Vw}, z.S = swapW e (g e) → (z.d = fun k => if k = e then 2 * g e + 1 else x.d k) → z.shown n = (z.a, true) := fun {z} h1 h2 => by
          obtain ⟨h3, h4⟩ := q2 h1 h2
          rw [Vw.shown_5 h3 (by rw [h1]; exact f2), if_neg h4]
        refine ⟨ho, may_a (fun h => absurd h hk), ok_low hn (.inl hS) hdx, may_s (fun h => absurd h hk) (fun _ => by show x.d (fEntry (swapW e (g e))).toNat = _; rw [f3, f4, Int.toNat_natCast, hde]), q1 rfl rfl, may_d ?_ ?_, (q2 rfl rfl).1, may_v (fun _ => (q2 rfl rfl).2) (q2s rfl rfl), (q2 rfl rfl).1, may_s (fun _ => (q2 rfl rfl).2) (fun h => absurd h (by decide)), ok_low hn (.inl rfl) hd2, may_d ?_ (fun h => absurd h (by show ¬ (3 ≤ fKind 1); decide)), ih (upd g e) _ rfl ?_ ?_ (fun z hz => hl z (List.mem_cons_of_mem _ hz))⟩
        · show x.d e ≤ _; omega
        · intro _ _; show (fEntry (swapW e (g e))).toNat = e ∧ 2 * fGen (swapW e (g e)) + 1 = _; rw [f3, f4]; exact ⟨Int.toNat_natCast _, rfl⟩
        · show (if e = e then 2 * g e + 1 else x.d e) ≤ _; rw [if_pos rfl]; omega
        · intro k
          show (if k = e then 2 * (g e + 1) else if k = e then 2 * g e + 1 else x.d k) = 2 * upd g e k
          unfold upd
          split
          · rfl
          · exact hd k
        · intro k
          have := hb k
          unfold upd
          split <;> omega
theorem born_ok (hn : 1 ≤ n) (hn2 : n ≤ 16) (l : List DeedP) (x : Vw) (hS : x.S = 3) (hd : ∀ e, x.d e = 0) (hl2 : l.length ≤ 8) (hl : ∀ y ∈ l, (y.entry : Int) < n) : WOk n x (bornP l) := by
  have hdx : ∀ k, 0 ≤ x.d k ∧ x.d k ≤ 1000000 := fun k => by rw [hd k]; omega
  have hd1 : ∀ k, 0 ≤ (if k = 0 then 1 else x.d k) ∧ (if k = 0 then 1 else x.d k) ≤ 1000000 := fun k => by
    split
    · omega
    · exact hdx k
  unfold bornP
  refine ⟨⟨by rw [hS]; exact k3.1, by rw [hS, k3.2.2.1]; omega, fun _ => by rw [hS, k3.2.2.1, k3.2.2.2, hd]; omega, hdx⟩, may_d ?_ ?_, ⟨?_, ?_, ?_, hd1⟩, may_s (fun _ => ?_) (fun h => absurd h (by decide)), ok_low hn (.inl rfl) hd1, may_d ?_ (fun h => absurd h (by show ¬ (3 ≤ fKind 1); decide)), deeds_ok hn hn2 l _ _ rfl ?_ ?_ hl⟩
  · rw [hd]; omega
  · intro _ _; rw [hS, k3.2.2.1, k3.2.2.2]; exact ⟨rfl, rfl⟩
  · show fOk x.S = true; rw [hS]; exact k3.1
  · show fEntry x.S < n; rw [hS, k3.2.2.1]; omega
  · intro _; show 2 * fGen x.S ≤ if (fEntry x.S).toNat = 0 then 1 else x.d (fEntry x.S).toNat; rw [hS, k3.2.2.1, k3.2.2.2, if_pos (by rfl)]; omega
  · show ¬ ((if (fEntry x.S).toNat = 0 then 1 else x.d (fEntry x.S).toNat) = 2 * fGen x.S); rw [hS, k3.2.2.1, k3.2.2.2, if_pos (by rfl)]; omega
  · show (if 0 = 0 then 1 else x.d 0) ≤ (2 : Int); rw [if_pos rfl]; omega
  · intro k
    show (if k = 0 then 2 else if k = 0 then 1 else x.d k) = 2 * upd (fun _ => 0) 0 k
    unfold upd
    split
    · rfl
    · exact hd k
  · intro k
    show 0 ≤ (if k = 0 then (0 : Int) + 1 else 0) ∧ (if k = 0 then (0 : Int) + 1 else 0) + l.length ≤ 1000
    split <;> omega
end
end Go.Lf
