/- read: what holds at each round of a reader beside a writer. Plain. -/
import Derived.Test.YtmafdjhjmnghcaaGreatReadVl
set_option linter.unusedVariables false
set_option linter.unusedSimpArgs false
namespace Go.Lf
/-- The read at a round: x what can be seen now, sn and gn what was seen, bg whether the read has begun. -/
structure PI (n : Int) (x : Vw) (sn : List Int) (gn bg : Bool) (s : RS) (k : Nat) : Prop where
  tw : s.tower = 1
  th : s.th = 1
  fl : s.fails ≤ k
  over : s.ended = true → s.next = 0 ∧ ((s.err = 0 ∧ (s.present = true → s.value ∈ sn) ∧ (s.present = false → gn = true)) ∨ (s.err = 11 ∧ s.value = 0 ∧ s.present = false))
  on : s.ended = false → s.good n ∧ s.err = 0 ∧ RI n x sn (gn = true) s ∧ (bg = false → s.next = 23)
/-- What has been seen behind a look. -/
def snB (b : Bool) (sh : Int × Bool) (sn : List Int) : List Int := if b = true ∧ sh.2 = true then sn ++ [sh.1] else sn
def gnB (b : Bool) (sh : Int × Bool) (gn : Bool) : Bool := gn || (b && !sh.2)
theorem SeenBy.look (n : Int) (x : Vw) (sn : List Int) (gn : Bool) : SeenBy n x sn (gn = true) (snB true (x.shown n) sn) (gnB true (x.shown n) gn = true) := by
  refine ⟨fun v hv => ?_, fun h => ?_, fun h => ?_, fun h => ?_⟩
  · unfold snB; split
    · exact List.mem_append_left _ hv
    · exact hv
  · unfold gnB; rw [h]; rfl
  · unfold snB; rw [if_pos ⟨rfl, h⟩]; simp
  · unfold gnB; rw [h]; simp
theorem RI.triv {n : Int} {x : Vw} {sn : List Int} {gn : Prop} {s : RS} (h : s.next = 23) : RI n x sn gn s :=
  ⟨fun e => by omega, fun e => by omega, fun e => by omega, fun e => by omega⟩
theorem RS.step_next {n : Int} {s : RS} {w : Int} (he : s.ended = false) (h : (s.step n w).ended = true) : (s.step n w).next = 0 := by
  have hby : ∀ (t : RS) (v : Int), t.ended = false → (t.by n v).ended = true → (t.by n v).next = 0 := fun t v h0 h1 => by
    unfold RS.by at h1 ⊢
    split
    · rfl
    · rename_i h2; rw [if_neg h2] at h1
      split at h1
      · rw [show (({ t with state := v, next := 25 } : RS).ended) = t.ended from rfl, h0] at h1; cases h1
      · rw [show (({ t with state := v, next := 24 } : RS).ended) = t.ended from rfl, h0] at h1; cases h1
  unfold RS.step at h ⊢
  split
  · rename_i h1; rw [if_pos h1] at h; exact hby _ _ he h
  · rename_i h1; rw [if_neg h1] at h
    split
    · rename_i h2; rw [if_pos h2] at h
      split
      · rfl
      · rename_i h3; rw [if_neg h3] at h
        split at h
        · rw [show (({ s with next := 26 } : RS).ended) = s.ended from rfl, he] at h; cases h
        · rw [show (({ s with next := 25 } : RS).ended) = s.ended from rfl, he] at h; cases h
    · rename_i h2; rw [if_neg h2] at h
      split
      · rfl
      · rename_i h3; rw [if_neg h3] at h
        split
        · rename_i h4; rw [if_pos h4] at h
          rw [show (({ s with value := w, next := 27 } : RS).ended) = s.ended from rfl, he] at h; cases h
        · rename_i h4; rw [if_neg h4] at h
          split
          · rfl
          · rename_i h5; rw [if_neg h5] at h
            split
            · rfl
            · rename_i h6; rw [if_neg h6] at h
              exact hby _ _ he h
section
variable {n : Int} {x : Vw} {sn : List Int} {gn bg : Bool} {s : RS} {k : Nat}
theorem RS.step_same {lk : Int} {s : RS} {x : Int} : (s.step lk x).tower = s.tower ∧ (s.step lk x).th = s.th := by
  unfold RS.step RS.by RS.fin
  repeat' split
  all_goals exact ⟨rfl, rfl⟩
theorem Vw.word_rng {st : WSt} (hx : ∀ v ∈ [x.S, x.v, x.a], 0 ≤ v ∧ v < 18446744073709551616) (hd : ∀ e, 0 ≤ x.d e ∧ x.d e < 18446744073709551616) (s : RS) : 0 ≤ x.word s ∧ x.word s < 18446744073709551616 := by
  unfold Vw.word
  split
  · exact hd _
  · split
    · exact hx _ (by simp)
    · split
      · exact hx _ (by simp)
      · exact hx _ (by simp)
/-- The reader's round. -/
theorem PI.reads (h : PI n x sn gn bg s k) (he : s.ended = false) (ho : x.ok n) (hw : 0 ≤ x.word s ∧ x.word s < 18446744073709551616) (hk : k ≤ 1000) : PI n x (snB true (x.shown n) sn) (gnB true (x.shown n) gn) true (s.step n (x.word s)) (k + 1) := by
  obtain ⟨hg, her, hri, -⟩ := h.on he
  have hend := hri.step ho hg her (SeenBy.look n x sn gn)
  have hst := RS.step_same (lk := n) (s := s) (x := x.word s)
  have hfl := RS.step_fails (lk := n) (s := s) (w := x.word s)
  have hf := h.fl
  refine ⟨by rw [hst.1]; exact h.tw, by rw [hst.2]; exact h.th, by omega, fun e => ⟨RS.step_next he e, ?_⟩, fun e => ?_⟩
  · unfold REnd at hend
    rw [if_pos e] at hend
    exact hend
  · unfold REnd at hend
    rw [if_neg (by rw [e]; decide)] at hend
    have hs0 : (s.step n (x.word s)).err = 0 := by
      have hby : ∀ (t : RS) (v : Int), t.err = 0 → (t.by n v).err = 0 := fun t v h0 => by
        unfold RS.by RS.fin
        repeat' split
        all_goals exact h0
      revert e
      unfold RS.step
      split
      · intro _; exact hby _ _ her
      · split
        · split
          · intro _; exact her
          · split
            · intro _; exact her
            · intro _; exact her
        · split
          · intro _; exact her
          · split
            · intro _; exact her
            · split
              · intro _; exact her
              · split
                · intro e; cases e
                · intro _; exact hby _ _ her
    exact ⟨RS.step_good hg hw.1 hw.2 (by omega) e, hs0, hend.2, fun e2 => by cases e2⟩
/-- A round in which the writer stores. -/
theorem PI.writes {st : WSt} {l : List WSt} (h : PI n x sn gn bg s k) (he : s.ended = false) (hw : WOk n x (st :: l)) : PI n (x.put st) (snB bg (x.shown n) sn) (gnB bg (x.shown n) gn) bg s (k + 1) := by
  obtain ⟨hg, her, hri, hbg⟩ := h.on he
  refine ⟨h.tw, h.th, by have := h.fl; omega, fun e => (by rw [he] at e; cases e), fun _ => ⟨hg, her, ?_, hbg⟩⟩
  cases bg with
  | false => exact RI.triv (hbg rfl)
  | true => exact hri.write hw (SeenBy.look n x sn gn)
/-- A round in which nothing happens. -/
theorem PI.idles (h : PI n x sn gn bg s k) (he : s.ended = false) : PI n x (snB bg (x.shown n) sn) (gnB bg (x.shown n) gn) bg s (k + 1) := by
  obtain ⟨hg, her, hri, hbg⟩ := h.on he
  refine ⟨h.tw, h.th, by have := h.fl; omega, fun e => (by rw [he] at e; cases e), fun _ => ⟨hg, her, ?_, hbg⟩⟩
  cases bg with
  | false => exact RI.triv (hbg rfl)
  | true => exact hri.still (SeenBy.look n x sn gn)
end
end Go.Lf
