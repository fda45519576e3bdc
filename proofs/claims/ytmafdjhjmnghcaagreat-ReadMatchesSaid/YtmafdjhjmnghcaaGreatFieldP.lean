/- Words of states, descriptors, heads: plain. -/
import Derived.Test.YtmafdjhjmnghcaaGreatDomPlain
import Derived.Test.YtmafdjhjmnghcaaGreatBase
set_option linter.unusedVariables false
set_option linter.unusedSimpArgs false
namespace Go.Lf
def fKind (w : Int) : Int := w % 8
def fEntry (w : Int) : Int := w % 65536 / 8
def fGen (w : Int) : Int := w / 65536
/-- Whether a state word may have these parts. -/
def fValid (k e g : Int) : Bool :=
  if k = 0 ∨ k = 1 ∨ k = 2 then decide (e = 0 ∧ g = 0)
  else if k = 3 ∨ k = 4 ∨ k = 5 then decide (0 ≤ e ∧ e < 16 ∧ g ≤ 1099511627775)
  else false
def fOk (w : Int) : Bool := fValid (fKind w) (fEntry w) (fGen w)
def fDec (s d : Int) : Bool := !decide (d / 2 = fGen s) || decide (d % 2 = 1)
/-- Present, alternative, error. -/
def fDecide (s d : Int) : Bool × Bool × Int :=
  if fOk s = false ∨ 1099511627775 < d / 2 then (false, false, 4)
  else if fKind s = 1 then (true, false, 0)
  else if fKind s = 3 then (fDec s d, false, 0)
  else if fKind s = 4 then (!fDec s d, false, 0)
  else if fKind s = 5 then (true, fDec s d, 0)
  else (false, false, 0)
theorem fOk_kind {w : Int} (h : fOk w = true) : fKind w = 0 ∨ fKind w = 1 ∨ fKind w = 2 ∨ fKind w = 3 ∨ fKind w = 4 ∨ fKind w = 5 := by
  unfold fOk fValid at h
  split at h
  · omega
  · split at h
    · omega
    · cases h
theorem fKind_rng {w : Int} : 0 ≤ fKind w ∧ fKind w < 8 := by unfold fKind; omega
theorem fEntry_rng {w : Int} : 0 ≤ fEntry w ∧ fEntry w < 8192 := by unfold fEntry; omega
theorem fGen_rng {w : Int} (h0 : 0 ≤ w) (h1 : w < 18446744073709551616) : 0 ≤ fGen w ∧ fGen w < 281474976710656 := by unfold fGen; omega
end Go.Lf

/-! read: the state of a read. Plain. -/
set_option linter.unusedVariables false
set_option linter.unusedSimpArgs false
namespace Go.Lf
structure RS where
  th : Int
  tower : Int
  tries : Int
  fails : Int
  state : Int
  value : Int
  present : Bool
  ended : Bool
  next : Int
  err : Int
def RS.fin (s : RS) (v : Int) (p : Bool) : RS := { s with value := v, present := p, ended := true, next := 0 }
/-- The kind by which a read goes on. -/
def byKind (lk : Int) (w : Int) : Int := if fOk w = true ∧ fEntry w < lk then fKind w else 2
def RS.by (lk : Int) (s : RS) (w : Int) : RS :=
  if byKind lk w = 0 ∨ byKind lk w = 2 then { s with state := w }.fin 0 false
  else if byKind lk w = 1 then { s with state := w, next := 25 } else { s with state := w, next := 24 }
/-- The word that a step loads: T the tower's first word, D the descriptors. -/
def RS.at (T D : Nat) (s : RS) : Nat := if s.next = 23 then T + 4 else if s.next = 24 then D + (fEntry s.state).toNat else if s.next = 25 then T + 1 else if s.next = 26 then T + 2 else T + 4
/-- A step that has loaded w. -/
def RS.step (lk : Int) (s : RS) (w : Int) : RS :=
  if s.next = 23 then s.by lk w
  else if s.next = 24 then
    (if (fDecide s.state w).2.2 ≠ 0 ∨ (fDecide s.state w).1 = false then s.fin 0 false
     else if (fDecide s.state w).2.1 = true then { s with next := 26 } else { s with next := 25 })
  else if s.next = 25 then s.fin w true
  else if s.next = 26 then { s with value := w, next := 27 }
  else if w = s.state then s.fin s.value true
  else if s.fails + 1 = s.tries then { s with fails := s.fails + 1, err := 11 }.fin 0 false
  else { s with fails := s.fails + 1, value := 0 }.by lk w
theorem byKind_cases (lk w : Int) : byKind lk w = 0 ∨ byKind lk w = 1 ∨ byKind lk w = 2 ∨ byKind lk w = 3 ∨ byKind lk w = 4 ∨ byKind lk w = 5 := by
  unfold byKind
  split
  · rename_i h; exact fOk_kind h.1
  · omega
end Go.Lf

/-! read: a read to its end. Plain. -/
set_option linter.unusedVariables false
set_option linter.unusedSimpArgs false
namespace Go.Lf
/-- A read under way. -/
structure RS.good (lk : Int) (s : RS) : Prop where
  nx : s.next = 23 ∨ s.next = 24 ∨ s.next = 25 ∨ s.next = 26 ∨ s.next = 27
  st : 0 ≤ s.state ∧ s.state < 18446744073709551616
  en : s.next = 24 → fEntry s.state < lk
  ended : s.ended = false
  fl : 0 ≤ s.fails ∧ s.fails < 1000000
  vl : 0 ≤ s.value ∧ s.value < 18446744073709551616
theorem byKind_entry {lk w : Int} (h : byKind lk w ≠ 0) (h2 : byKind lk w ≠ 2) : fEntry w < lk := by
  unfold byKind at h h2
  split at h
  · rename_i e; exact e.2
  · rename_i e; rw [if_neg e] at h2; exact absurd rfl h2
theorem RS.by_good {lk : Int} {s : RS} {w : Int} (h : s.ended = false) (hf : 0 ≤ s.fails ∧ s.fails < 1000000) (hv : 0 ≤ s.value ∧ s.value < 18446744073709551616) (w0 : 0 ≤ w) (w1 : w < 18446744073709551616) (he : (s.by lk w).ended = false) : (s.by lk w).good lk := by
  unfold RS.by at he ⊢
  split at he
  · cases he
  · rename_i h1
    rw [if_neg h1]
    split
    · exact ⟨.inr (.inr (.inl rfl)), ⟨w0, w1⟩, fun e => (by cases e), h, hf, hv⟩
    · exact ⟨.inr (.inl rfl), ⟨w0, w1⟩, fun _ => byKind_entry (fun e => h1 (.inl e)) (fun e => h1 (.inr e)), h, hf, hv⟩
theorem RS.step_good {lk : Int} {s : RS} {w : Int} (h : s.good lk) (w0 : 0 ≤ w) (w1 : w < 18446744073709551616) (hb : s.fails + 1 < 1000000) (he : (s.step lk w).ended = false) : (s.step lk w).good lk := by
  have hf := h.fl
  unfold RS.step at he ⊢
  split
  · rename_i h1; rw [if_pos h1] at he; exact RS.by_good h.ended h.fl h.vl w0 w1 he
  · rename_i h1; rw [if_neg h1] at he
    split
    · rename_i h2; rw [if_pos h2] at he
      split
      · rename_i h3; rw [if_pos h3] at he; cases he
      · rename_i h3; rw [if_neg h3] at he
        split
        · exact ⟨.inr (.inr (.inr (.inl rfl))), h.st, fun e => (by cases e), h.ended, h.fl, h.vl⟩
        · exact ⟨.inr (.inr (.inl rfl)), h.st, fun e => (by cases e), h.ended, h.fl, h.vl⟩
    · rename_i h2; rw [if_neg h2] at he
      split
      · rename_i h3; rw [if_pos h3] at he; cases he
      · rename_i h3; rw [if_neg h3] at he
        split
        · exact ⟨.inr (.inr (.inr (.inr rfl))), h.st, fun e => (by cases e), h.ended, h.fl, ⟨w0, w1⟩⟩
        · rename_i h4; rw [if_neg h4] at he
          split
          · rename_i h5; rw [if_pos h5] at he; cases he
          · rename_i h5; rw [if_neg h5] at he
            split
            · rename_i h6; rw [if_pos h6] at he; cases he
            · rename_i h6; rw [if_neg h6] at he
              exact RS.by_good h.ended ⟨by show 0 ≤ s.fails + 1; omega, hb⟩ ⟨Int.le_refl 0, (by show (0:Int) < 18446744073709551616; decide)⟩ w0 w1 he
theorem RS.step_fails {lk : Int} {s : RS} {w : Int} : (s.step lk w).fails ≤ s.fails + 1 ∧ s.fails ≤ (s.step lk w).fails := by
  unfold RS.step RS.by RS.fin
  repeat' split
  all_goals simp only
  all_goals omega
/-- The word that a step loads, out of the words. -/
def RS.word (T D : Nat) (ws : List Int) (s : RS) : Int := (ws[s.at T D]?).getD 0
/-- The access that a step makes. -/
def RS.acc (T D : Nat) (ws : List Int) (s : RS) : Acc := ⟨s.th, ((s.at T D : Nat) : Int), 1, s.word T D ws, s.word T D ws, false⟩
/-- To the end: the number of steps, and the state then. -/
def RS.runs (lk : Int) (T D : Nat) (ws : List Int) : Nat → RS → Option (Nat × RS)
  | 0, _ => none
  | f + 1, s => if (s.step lk (s.word T D ws)).ended = true then some (1, s.step lk (s.word T D ws)) else (RS.runs lk T D ws f (s.step lk (s.word T D ws))).map fun x => (x.1 + 1, x.2)
theorem RS.runs_one {lk : Int} {T D : Nat} {ws : List Int} {f n : Nat} {s s' : RS} (h : s.runs lk T D ws (f + 1) = some (n, s')) (he : (s.step lk (s.word T D ws)).ended = true) : n = 1 ∧ s' = s.step lk (s.word T D ws) := by
  rw [RS.runs, if_pos he] at h
  simp only [Option.some.injEq, Prod.mk.injEq] at h
  exact ⟨h.1.symm, h.2.symm⟩
theorem RS.runs_more {lk : Int} {T D : Nat} {ws : List Int} {f n : Nat} {s s' : RS} (h : s.runs lk T D ws (f + 1) = some (n, s')) (he : (s.step lk (s.word T D ws)).ended = false) : ∃ m, n = m + 1 ∧ (s.step lk (s.word T D ws)).runs lk T D ws f = some (m, s') := by
  rw [RS.runs, if_neg (by rw [he]; decide)] at h
  obtain ⟨x, h1, h2⟩ := Option.map_eq_some_iff.1 h
  simp only [Prod.mk.injEq] at h2
  exact ⟨x.1, h2.1.symm, by rw [h1, ← h2.2]⟩
end Go.Lf

/-! read: what the words say, and a quiet read. Plain. -/
set_option linter.unusedVariables false
set_option linter.unusedSimpArgs false
namespace Go.Lf
/-- What the words of a tower and the descriptors say: the value, and whether it is present. -/
def shownP (lk : Int) (T D : Nat) (ws : List Int) : Int × Bool :=
  if fOk ((ws[T + 4]?).getD 0) = true ∧ fEntry ((ws[T + 4]?).getD 0) < lk then
    let s := (ws[T + 4]?).getD 0
    let d := if fKind s = 0 ∨ fKind s = 1 ∨ fKind s = 2 then 0 else (ws[D + (fEntry s).toNat]?).getD 0
    if (fDecide s d).2.2 ≠ 0 ∨ (fDecide s d).1 = false then (0, false) else ((ws[T + (if (fDecide s d).2.1 = true then 2 else 1)]?).getD 0, true)
  else (0, false)
/-- A read that begins. -/
def RS.init (t tw tr : Int) : RS := ⟨t, tw, tr, 0, 0, 0, false, false, 23, 0⟩
theorem quiet_run {lk : Int} {T D : Nat} {ws : List Int} (t tw tr : Int) : ∃ n s', (RS.init t tw tr).runs lk T D ws 20 = some (n, s') ∧ n ≤ 4 ∧ s'.fails = 0 ∧ s'.err = 0 ∧ s'.ended = true ∧ (s'.value, s'.present) = shownP lk T D ws := by
  obtain ⟨s, hs⟩ : ∃ s, (ws[T + 4]?).getD 0 = s := ⟨_, rfl⟩
  have hw : (RS.init t tw tr).word T D ws = s := hs
  have h1 : (RS.init t tw tr).step lk s = (RS.init t tw tr).by lk s := rfl
  by_cases hk : fOk s = true ∧ fEntry s < lk
  · have hb : byKind lk s = fKind s := if_pos hk
    have hsh : shownP lk T D ws = (let d := if fKind s = 0 ∨ fKind s = 1 ∨ fKind s = 2 then 0 else (ws[D + (fEntry s).toNat]?).getD 0
      if (fDecide s d).2.2 ≠ 0 ∨ (fDecide s d).1 = false then (0, false) else ((ws[T + (if (fDecide s d).2.1 = true then 2 else 1)]?).getD 0, true)) := by
      unfold shownP; rw [hs, if_pos hk]
    have hd0 : ∀ k : Int, fKind s = k → (k = 0 ∨ k = 1 ∨ k = 2) → fDecide s 0 = (decide (k = 1), false, 0) := by
      intro k h0 h1
      unfold fDecide
      rw [if_neg (by rw [hk.1]; simp), h0]
      rcases h1 with rfl | rfl | rfl <;> simp
    rcases fOk_kind hk.1 with e | e | e | e | e | e
    · refine ⟨1, ((RS.init t tw tr).by lk s), ?_⟩
      have hy : (RS.init t tw tr).by lk s = { RS.init t tw tr with state := s }.fin 0 false := by unfold RS.by; rw [if_pos (by rw [hb, e]; simp)]
      rw [hy]
      refine ⟨by rw [RS.runs, hw, h1, hy]; rfl, by decide, rfl, rfl, rfl, ?_⟩
      rw [hsh]; simp only [e, true_or, if_true, hd0 0 e (by simp)]; rfl
    · have hy : (RS.init t tw tr).by lk s = { RS.init t tw tr with state := s, next := 25 } := by unfold RS.by; rw [if_neg (by rw [hb, e]; simp), if_pos (by rw [hb, e])]
      refine ⟨2, { RS.init t tw tr with state := s, next := 25 }.fin ((ws[T + 1]?).getD 0) true, ?_, by decide, rfl, rfl, rfl, ?_⟩
      · rw [RS.runs, hw, h1, hy, if_neg (by simp [RS.init]), RS.runs]
        rfl
      · rw [hsh]; simp only [e, true_or, or_true, if_true, hd0 1 e (by simp)]; rfl
    · refine ⟨1, ((RS.init t tw tr).by lk s), ?_⟩
      have hy : (RS.init t tw tr).by lk s = { RS.init t tw tr with state := s }.fin 0 false := by unfold RS.by; rw [if_pos (by rw [hb, e]; simp)]
      rw [hy]
      refine ⟨by rw [RS.runs, hw, h1, hy]; rfl, by decide, rfl, rfl, rfl, ?_⟩
      rw [hsh]; simp only [e, or_true, if_true, hd0 2 e (by simp)]; rfl
    all_goals
      have hy : (RS.init t tw tr).by lk s = { RS.init t tw tr with state := s, next := 24 } := by unfold RS.by; rw [if_neg (by rw [hb, e]; simp), if_neg (by rw [hb, e]; simp)]
      obtain ⟨d, hd⟩ : ∃ d, (ws[D + (fEntry s).toNat]?).getD 0 = d := ⟨_, rfl⟩
      have hw2 : ({ RS.init t tw tr with state := s, next := 24 } : RS).word T D ws = d := hd
      have hr : (RS.init t tw tr).runs lk T D ws 20 = (({ RS.init t tw tr with state := s, next := 24 } : RS).runs lk T D ws 19).map fun x => (x.1 + 1, x.2) := by
        rw [RS.runs, hw, h1, hy, if_neg (by simp [RS.init])]
      have hsh2 : shownP lk T D ws = if (fDecide s d).2.2 ≠ 0 ∨ (fDecide s d).1 = false then (0, false) else ((ws[T + (if (fDecide s d).2.1 = true then 2 else 1)]?).getD 0, true) := by
        rw [hsh]; simp only [e, hd]; rfl
      rw [hr, hsh2]
      by_cases h3 : (fDecide s d).2.2 ≠ 0 ∨ (fDecide s d).1 = false
      · have hst : ({ RS.init t tw tr with state := s, next := 24 } : RS).step lk d = ({ RS.init t tw tr with state := s, next := 24 } : RS).fin 0 false := by
          unfold RS.step; rw [if_neg (by simp), if_pos rfl, if_pos h3]
        refine ⟨2, ({ RS.init t tw tr with state := s, next := 24 } : RS).fin 0 false, ?_, by decide, rfl, rfl, rfl, ?_⟩
        · rw [RS.runs, hw2, hst]; rfl
        · rw [if_pos h3]; rfl
      · by_cases h4 : (fDecide s d).2.1 = true
        · have hst : ({ RS.init t tw tr with state := s, next := 24 } : RS).step lk d = { RS.init t tw tr with state := s, next := 26 } := by
            unfold RS.step; rw [if_neg (by simp), if_pos rfl, if_neg h3, if_pos h4]
          obtain ⟨v, hv⟩ : ∃ v, (ws[T + 2]?).getD 0 = v := ⟨_, rfl⟩
          have hw3 : ({ RS.init t tw tr with state := s, next := 26 } : RS).word T D ws = v := hv
          have hs3 : ({ RS.init t tw tr with state := s, next := 26 } : RS).step lk v = { RS.init t tw tr with state := s, value := v, next := 27 } := rfl
          have hw4 : ({ RS.init t tw tr with state := s, value := v, next := 27 } : RS).word T D ws = s := hs
          have hs4 : ({ RS.init t tw tr with state := s, value := v, next := 27 } : RS).step lk s = ({ RS.init t tw tr with state := s, value := v, next := 27 } : RS).fin v true := by
            unfold RS.step; rw [if_neg (by simp), if_neg (by simp), if_neg (by simp), if_neg (by simp), if_pos rfl]
          refine ⟨4, ({ RS.init t tw tr with state := s, value := v, next := 27 } : RS).fin v true, ?_, by decide, rfl, rfl, rfl, ?_⟩
          · rw [RS.runs, hw2, hst, if_neg (by simp [RS.init]), RS.runs, hw3, hs3, if_neg (by simp [RS.init]), RS.runs, hw4, hs4]; rfl
          · rw [if_neg h3, if_pos h4, hv]; rfl
        · have hst : ({ RS.init t tw tr with state := s, next := 24 } : RS).step lk d = { RS.init t tw tr with state := s, next := 25 } := by
            unfold RS.step; rw [if_neg (by simp), if_pos rfl, if_neg h3, if_neg h4]
          refine ⟨3, ({ RS.init t tw tr with state := s, next := 25 } : RS).fin ((ws[T + 1]?).getD 0) true, ?_, by decide, rfl, rfl, rfl, ?_⟩
          · rw [RS.runs, hw2, hst, if_neg (by simp [RS.init]), RS.runs]; rfl
          · rw [if_neg h3, if_neg h4]; rfl
  · have hb : byKind lk s = 2 := if_neg hk
    have hy : (RS.init t tw tr).by lk s = { RS.init t tw tr with state := s }.fin 0 false := by unfold RS.by; rw [if_pos (by rw [hb]; simp)]
    refine ⟨1, { RS.init t tw tr with state := s }.fin 0 false, by rw [RS.runs, hw, h1, hy]; rfl, by decide, rfl, rfl, rfl, ?_⟩
    unfold shownP; rw [hs, if_neg hk]; rfl
end Go.Lf
