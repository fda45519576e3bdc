
/- layout: the words of towers. -/
import Derived.Test.YtjghenomeindcaaGreatLayOps
set_option linter.unusedVariables false
set_option linter.unusedSimpArgs false
namespace Go.Lf
theorem tows_at {l : List Nat} : ∀ {a i x h : Nat}, (tows a l)[i]? = some x → l[i]? = some h → a ≤ x ∧ x + (5 + h) ≤ a + towW l := by
  induction l with
  | nil => intro a i x h h1 h2; simp at h2
  | cons n l ih =>
    intro a i x h h1 h2
    have e : towW (n :: l) = 5 + n + towW l := by simp [towW]
    cases i with
    | zero =>
      simp only [tows, List.getElem?_cons_zero, Option.some.injEq] at h1 h2
      subst h1; subst h2
      omega
    | succ i =>
      simp only [tows, List.getElem?_cons_succ] at h1 h2
      have := ih h1 h2
      omega
/-- The first word of a tower. -/
def Cfg.tow (c : Cfg) (i : Nat) : Nat := ((tows c.towers c.hs)[i]?).getD 0
theorem Cfg.tow_at (c : Cfg) {i : Nat} (h : i < c.nT) : (tows c.towers c.hs)[i]? = some (c.tow i) := by
  have : i < (tows c.towers c.hs).length := by rw [tows_len]; exact h
  unfold Cfg.tow
  rw [List.getElem?_eq_getElem this]; rfl
theorem Cfg.tow_rng (c : Cfg) {i : Nat} (h : i < c.nT) : c.towers ≤ c.tow i ∧ c.tow i + 5 ≤ c.words := by
  have h2 : c.hs[i]? = some c.hs[i] := List.getElem?_eq_getElem h
  have := tows_at (c.tow_at h) h2
  unfold Cfg.words
  omega
theorem Cfg.ok.towers {c : Cfg} (h : c.ok) : c.towers ≤ 4096 := by
  have h1 := h.engW
  have h2 := h.sl2
  have h3 := h.lk2
  have h4 := h.nT
  have h5 : c.d.cnt ≤ 64 := (Dom.cnt_pos h.d).2
  unfold Cfg.towers Cfg.heads Cfg.links Cfg.pools Cfg.descs Cfg.locks Cfg.master Cfg.engine
  omega
end Go.Lf
namespace Go.Proofs.YtjghenomeindcaaGreat
open Go.RowKit Go.Lf
section
variable {W W' : World} {L : Nat} {c : Cfg}
end
end Go.Proofs.YtjghenomeindcaaGreat
