/- read: a read to its end. Plain. -/
import Derived.Test.YtmafdjhjmnghcaaGreatReadP
set_option linter.unusedVariables false
set_option linter.unusedSimpArgs false
namespace Go.Lf
/-- A read under way. -/
structure RS.good (lk : Int) (s : RS) : Prop where
  nx : s.next = 23 ∨ s.next = 24 ∨ s.next = 25 ∨ s.next = 26 ∨ s.next = 27
  st : 0 ≤ s.state ∧ s.state < 18446744073709551616
  en : s.next = 24 → fEntry s.state < lk
  ended : s.ended = false
  fl : 0 ≤ s.fails ∧ s.fails < 1000000
  vl : 0 ≤ s.value ∧ s.value < 18446744073709551616
theorem byKind_entry {lk w : Int} (h : byKind lk w ≠ 0) (h2 : byKind lk w ≠ 2) : fEntry w < lk := by
  unfold byKind at h h2
  split at h
  · rename_i e; exact e.2
  · rename_i e; rw [if_neg e] at h2; exact absurd rfl h2
theorem RS.by_good {lk : Int} {s : RS} {w : Int} (h : s.ended = false) (hf : 0 ≤ s.fails ∧ s.fails < 1000000) (hv : 0 ≤ s.value ∧ s.value < 18446744073709551616) (w0 : 0 ≤ w) (w1 : w < 18446744073709551616) (he : (s.by lk w).ended = false) : (s.by lk w).good lk := by
  unfold RS.by at he ⊢
  split at he
  · cases he
  · rename_i h1
    rw [if_neg h1]
    split
    · exact ⟨.inr (.inr (.inl rfl)), ⟨w0, w1⟩, fun e => (by cases e), h, hf, hv⟩
    · exact ⟨.inr (.inl rfl), ⟨w0, w1⟩, fun _ => byKind_entry (fun e => h1 (.inl e)) (fun e => h1 (.inr e)), h, hf, hv⟩
theorem RS.step_good {lk : Int} {s : RS} {w : Int} (h : s.good lk) (w0 : 0 ≤ w) (w1 : w < 18446744073709551616) (hb : s.fails + 1 < 1000000) (he : (s.step lk w).ended = false) : (s.step lk w).good lk := by
  have hf := h.fl
  unfold RS.step at he ⊢
  split
  · rename_i h1; rw [if_pos h1] at he; exact RS.by_good h.ended h.fl h.vl w0 w1 he
  · rename_i h1; rw [if_neg h1] at he
    split
    · rename_i h2; rw [if_pos h2] at he
      split
      · rename_i h3; rw [if_pos h3] at he; cases he
      · rename_i h3; rw [if_neg h3] at he
        split
        · exact ⟨.inr (.inr (.inr (.inl rfl))), h.st, fun e => (by cases e), h.ended, h.fl, h.vl⟩
        · exact ⟨.inr (.inr (.inl rfl)), h.st, fun e => (by cases e), h.ended, h.fl, h.vl⟩
    · rename_i h2; rw [if_neg h2] at he
      split
      · rename_i h3; rw [if_pos h3] at he; cases he
      · rename_i h3; rw [if_neg h3] at he
        split
        · exact ⟨.inr (.inr (.inr (.inr rfl))), h.st, fun e => (by cases e), h.ended, h.fl, ⟨w0, w1⟩⟩
        · rename_i h4; rw [if_neg h4] at he
          split
          · rename_i h5; rw [if_pos h5] at he; cases he
          · rename_i h5; rw [if_neg h5] at he
            split
            · rename_i h6; rw [if_pos h6] at he; cases he
            · rename_i h6; rw [if_neg h6] at he
              exact RS.by_good h.ended ⟨by show 0 ≤ s.fails + 1; omega, hb⟩ ⟨Int.le_refl 0, (by show (0:Int) < 18446744073709551616; decide)⟩ w0 w1 he
theorem RS.step_fails {lk : Int} {s : RS} {w : Int} : (s.step lk w).fails ≤ s.fails + 1 ∧ s.fails ≤ (s.step lk w).fails := by
  unfold RS.step RS.by RS.fin
  repeat' split
  all_goals simp only
  all_goals omega
/-- The word that a step loads, out of the words. -/
def RS.word (T D : Nat) (ws : List Int) (s : RS) : Int := (ws[s.at T D]?).getD 0
/-- To the end: the number of steps, and the state then. -/
def RS.runs (lk : Int) (T D : Nat) (ws : List Int) : Nat → RS → Option (Nat × RS)
  | 0, _ => none
  | f + 1, s => if (s.step lk (s.word T D ws)).ended = true then some (1, s.step lk (s.word T D ws)) else (RS.runs lk T D ws f (s.step lk (s.word T D ws))).map fun x => (x.1 + 1, x.2)
theorem RS.runs_one {lk : Int} {T D : Nat} {ws : List Int} {f n : Nat} {s s' : RS} (h : s.runs lk T D ws (f + 1) = some (n, s')) (he : (s.step lk (s.word T D ws)).ended = true) : n = 1 ∧ s' = s.step lk (s.word T D ws) := by
  rw [RS.runs, if_pos he] at h
  simp only [Option.some.injEq, Prod.mk.injEq] at h
  exact ⟨h.1.symm, h.2.symm⟩
theorem RS.runs_more {lk : Int} {T D : Nat} {ws : List Int} {f n : Nat} {s s' : RS} (h : s.runs lk T D ws (f + 1) = some (n, s')) (he : (s.step lk (s.word T D ws)).ended = false) : ∃ m, n = m + 1 ∧ (s.step lk (s.word T D ws)).runs lk T D ws f = some (m, s') := by
  rw [RS.runs, if_neg (by rw [he]; decide)] at h
  obtain ⟨x, h1, h2⟩ := Option.map_eq_some_iff.1 h
  simp only [Prod.mk.injEq] at h2
  exact ⟨x.1, h2.1.symm, by rw [h1, ← h2.2]⟩
end Go.Lf
