/- read: what the words say, and a quiet read. Plain. -/
import Derived.Test.YtmafdjhjmnghcaaGreatReadRun
set_option linter.unusedVariables false
set_option linter.unusedSimpArgs false
namespace Go.Lf
/-- What the words of a tower and the descriptors say: the value, and whether it is present. -/
def shownP (lk : Int) (T D : Nat) (ws : List Int) : Int × Bool :=
  if fOk ((ws[T + 4]?).getD 0) = true ∧ fEntry ((ws[T + 4]?).getD 0) < lk then
    let s := (ws[T + 4]?).getD 0
    let d := if fKind s = 0 ∨ fKind s = 1 ∨ fKind s = 2 then 0 else (ws[D + (fEntry s).toNat]?).getD 0
    if (fDecide s d).2.2 ≠ 0 ∨ (fDecide s d).1 = false then (0, false) else ((ws[T + (if (fDecide s d).2.1 = true then 2 else 1)]?).getD 0, true)
  else (0, false)
/-- A read that begins. -/
def RS.init (t tw tr : Int) : RS := ⟨t, tw, tr, 0, 0, 0, false, false, 23, 0⟩
theorem quiet_run {lk : Int} {T D : Nat} {ws : List Int} (t tw tr : Int) : ∃ n s', (RS.init t tw tr).runs lk T D ws 20 = some (n, s') ∧ n ≤ 4 ∧ s'.fails = 0 ∧ s'.err = 0 ∧ s'.ended = true ∧ (s'.value, s'.present) = shownP lk T D ws := by
  obtain ⟨s, hs⟩ : ∃ s, (ws[T + 4]?).getD 0 = s := ⟨_, rfl⟩
  have hw : (RS.init t tw tr).word T D ws = s := hs
  have h1 : (RS.init t tw tr).step lk s = (RS.init t tw tr).by lk s := rfl
  by_cases hk : fOk s = true ∧ fEntry s < lk
  · have hb : byKind lk s = fKind s := if_pos hk
    have hsh : shownP lk T D ws = (let d := if fKind s = 0 ∨ fKind s = 1 ∨ fKind s = 2 then 0 else (ws[D + (fEntry s).toNat]?).getD 0
      if (fDecide s d).2.2 ≠ 0 ∨ (fDecide s d).1 = false then (0, false) else ((ws[T + (if (fDecide s d).2.1 = true then 2 else 1)]?).getD 0, true)) := by
      unfold shownP; rw [hs, if_pos hk]
    have hd0 : ∀ k : Int, fKind s = k → (k = 0 ∨ k = 1 ∨ k = 2) → fDecide s 0 = (decide (k = 1), false, 0) := by
      intro k h0 h1
      unfold fDecide
      rw [if_neg (by rw [hk.1]; simp), h0]
      rcases h1 with rfl | rfl | rfl <;> simp
    rcases fOk_kind hk.1 with e | e | e | e | e | e
    · refine ⟨1, ((RS.init t tw tr).by lk s), ?_⟩
      have hy : (RS.init t tw tr).by lk s = { RS.init t tw tr with state := s }.fin 0 false := by unfold RS.by; rw [if_pos (by rw [hb, e]; simp)]
      rw [hy]
      refine ⟨by rw [RS.runs, hw, h1, hy]; rfl, by decide, rfl, rfl, rfl, ?_⟩
      rw [hsh]; simp only [e, true_or, if_true, hd0 0 e (by simp)]; rfl
    · have hy : (RS.init t tw tr).by lk s = { RS.init t tw tr with state := s, next := 25 } := by unfold RS.by; rw [if_neg (by rw [hb, e]; simp), if_pos (by rw [hb, e])]
      refine ⟨2, { RS.init t tw tr with state := s, next := 25 }.fin ((ws[T + 1]?).getD 0) true, ?_, by decide, rfl, rfl, rfl, ?_⟩
      · rw [RS.runs, hw, h1, hy, if_neg (by simp [RS.init]), RS.runs]
        rfl
      · rw [hsh]; simp only [e, true_or, or_true, if_true, hd0 1 e (by simp)]; rfl
    · refine ⟨1, ((RS.init t tw tr).by lk s), ?_⟩
      have hy : (RS.init t tw tr).by lk s = { RS.init t tw tr with state := s }.fin 0 false := by unfold RS.by; rw [if_pos (by rw [hb, e]; simp)]
      rw [hy]
      refine ⟨by rw [RS.runs, hw, h1, hy]; rfl, by decide, rfl, rfl, rfl, ?_⟩
      rw [hsh]; simp only [e, or_true, if_true, hd0 2 e (by simp)]; rfl
    all_goals
      have hy : (RS.init t tw tr).by lk s = { RS.init t tw tr with state := s, next := 24 } := by unfold RS.by; rw [if_neg (by rw [hb, e]; simp), if_neg (by rw [hb, e]; simp)]
      obtain ⟨d, hd⟩ : ∃ d, (ws[D + (fEntry s).toNat]?).getD 0 = d := ⟨_, rfl⟩
      have hw2 : ({ RS.init t tw tr with state := s, next := 24 } : RS).word T D ws = d := hd
      have hr : (RS.init t tw tr).runs lk T D ws 20 = (({ RS.init t tw tr with state := s, next := 24 } : RS).runs lk T D ws 19).map fun x => (x.1 + 1, x.2) := by
        rw [RS.runs, hw, h1, hy, if_neg (by simp [RS.init])]
      have hsh2 : shownP lk T D ws = if (fDecide s d).2.2 ≠ 0 ∨ (fDecide s d).1 = false then (0, false) else ((ws[T + (if (fDecide s d).2.1 = true then 2 else 1)]?).getD 0, true) := by
        rw [hsh]; simp only [e, hd]; rfl
      rw [hr, hsh2]
      by_cases h3 : (fDecide s d).2.2 ≠ 0 ∨ (fDecide s d).1 = false
      · have hst : ({ RS.init t tw tr with state := s, next := 24 } : RS).step lk d = ({ RS.init t tw tr with state := s, next := 24 } : RS).fin 0 false := by
          unfold RS.step; rw [if_neg (by simp), if_pos rfl, if_pos h3]
        refine ⟨2, ({ RS.init t tw tr with state := s, next := 24 } : RS).fin 0 false, ?_, by decide, rfl, rfl, rfl, ?_⟩
        · rw [RS.runs, hw2, hst]; rfl
        · rw [if_pos h3]; rfl
      · by_cases h4 : (fDecide s d).2.1 = true
        · have hst : ({ RS.init t tw tr with state := s, next := 24 } : RS).step lk d = { RS.init t tw tr with state := s, next := 26 } := by
            unfold RS.step; rw [if_neg (by simp), if_pos rfl, if_neg h3, if_pos h4]
          obtain ⟨v, hv⟩ : ∃ v, (ws[T + 2]?).getD 0 = v := ⟨_, rfl⟩
          have hw3 : ({ RS.init t tw tr with state := s, next := 26 } : RS).word T D ws = v := hv
          have hs3 : ({ RS.init t tw tr with state := s, next := 26 } : RS).step lk v = { RS.init t tw tr with state := s, value := v, next := 27 } := rfl
          have hw4 : ({ RS.init t tw tr with state := s, value := v, next := 27 } : RS).word T D ws = s := hs
          have hs4 : ({ RS.init t tw tr with state := s, value := v, next := 27 } : RS).step lk s = ({ RS.init t tw tr with state := s, value := v, next := 27 } : RS).fin v true := by
            unfold RS.step; rw [if_neg (by simp), if_neg (by simp), if_neg (by simp), if_neg (by simp), if_pos rfl]
          refine ⟨4, ({ RS.init t tw tr with state := s, value := v, next := 27 } : RS).fin v true, ?_, by decide, rfl, rfl, rfl, ?_⟩
          · rw [RS.runs, hw2, hst, if_neg (by simp [RS.init]), RS.runs, hw3, hs3, if_neg (by simp [RS.init]), RS.runs, hw4, hs4]; rfl
          · rw [if_neg h3, if_pos h4, hv]; rfl
        · have hst : ({ RS.init t tw tr with state := s, next := 24 } : RS).step lk d = { RS.init t tw tr with state := s, next := 25 } := by
            unfold RS.step; rw [if_neg (by simp), if_pos rfl, if_neg h3, if_neg h4]
          refine ⟨3, ({ RS.init t tw tr with state := s, next := 25 } : RS).fin ((ws[T + 1]?).getD 0) true, ?_, by decide, rfl, rfl, rfl, ?_⟩
          · rw [RS.runs, hw2, hst, if_neg (by simp [RS.init]), RS.runs]; rfl
          · rw [if_neg h3, if_neg h4]; rfl
  · have hb : byKind lk s = 2 := if_neg hk
    have hy : (RS.init t tw tr).by lk s = { RS.init t tw tr with state := s }.fin 0 false := by unfold RS.by; rw [if_pos (by rw [hb]; simp)]
    refine ⟨1, { RS.init t tw tr with state := s }.fin 0 false, by rw [RS.runs, hw, h1, hy]; rfl, by decide, rfl, rfl, rfl, ?_⟩
    unfold shownP; rw [hs, if_neg hk]; rfl
end Go.Lf
