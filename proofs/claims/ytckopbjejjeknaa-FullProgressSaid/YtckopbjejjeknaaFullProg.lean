/- FullProgress: rounds in which sections are left and waits go on. -/
import Derived.Test.YtckopbjejjeknaaFullPlay2
namespace Go.Lf
/-- A thread after r rounds. -/
def PP (r : Nat) (x : PT) : Prop := r = 0 ∨ (x.inn = false ∧ ∀ b s, x.wt = some (b, s) → r ≤ s.pos + 1)
/-- The threads below t have had one round more. -/
def QQ (r t : Nat) (th : List PT) : Prop := ∀ (j : Nat) (x : PT), th[j]? = some x → PP (if j < t then r + 1 else r) x
theorem QQ.wrap {r : Nat} {th : List PT} (h : QQ r 6 th) (hl : th.length = 6) : QQ (r + 1) 0 th := by
  intro j x hx
  have := h j x hx
  rw [if_pos (by have := lt_of_at hx; omega)] at this
  rw [if_neg (by omega)]
  exact this
theorem QQ.put {r t : Nat} {th : List PT} (h : QQ r t th) {x' : PT} (hx : PP (r + 1) x') : QQ r (t + 1) (th.set t x') := by
  intro j x hj
  rcases set_cases hj with ⟨e1, e2⟩ | ⟨e1, e2⟩
  · subst e1; subst e2
    rw [if_pos (by omega)]; exact hx
  · have := h j x e2
    by_cases hjt : j < t
    · rw [if_pos hjt] at this; rw [if_pos (by omega)]; exact this
    · rw [if_neg hjt] at this; rw [if_neg (by omega)]; exact this
theorem QQ.skip {r t : Nat} {th : List PT} (h : QQ r t th) (hx : ∀ x, th[t]? = some x → PP (r + 1) x) : QQ r (t + 1) th := by
  intro j x hj
  by_cases e : j = t
  · subst e; rw [if_pos (by omega)]; exact hx x hj
  · have := h j x hj
    by_cases hjt : j < t
    · rw [if_pos hjt] at this; rw [if_pos (by omega)]; exact this
    · rw [if_neg hjt] at this; rw [if_neg (by omega)]; exact this
/-- A step of a wait at an even word goes on. -/
theorem step_even (s : WS) (y : Int) (h1 : s.st < 2) (h3 : s.st = 1 → s.first % 2 = 1) (hy : y % 2 = 0) : (s.step 6 y).pos = s.pos + 1 := by
  unfold WS.step
  split
  · (first | rw [if_pos hy] | skip); unfold WS.next; split <;> rfl
  · (first | rw [if_neg (fun e => by have := h3 (by omega); omega)] | skip); unfold WS.next; split <;> rfl
end Go.Lf
namespace Go.Proofs.Ytckopbjejjeknaa
open Go.RowKit Go.Lf
section
variable {w wr : World} {rb g nb bb mb : Nat} {F : Nat → Prop} {nums : List Int} {th : List PT} {log : List Acc}
def GoodQ (w : World) (rb g nb bb mb K r t : Nat) (w' : World) : Prop := ∃ nums th F log, RunAt w w' rb g nb bb mb F nums noBeg th log ∧ Inv nums th K ∧ log.length ≤ K ∧ QQ r t th
theorem even_word {K : Int} (h : Inv nums th K) {i : Nat} {y : Int} (hy : nums[i]? = some y) (hin : ∀ z, th[i]? = some z → z.inn = false) : y % 2 = 0 := by
  obtain ⟨z, hz⟩ : ∃ z, th[i]? = some z := ⟨_, List.getElem?_eq_getElem (by have := lt_of_at hy; have := h.ln; have := h.lt; omega)⟩
  have := (h.num i z y hz hy).2.2.2.2 (hin z hz)
  omega

/-- In a round a thread that is in a section leaves it, and one that waits makes a step. -/
theorem round_act (h : RunAt w wr rb g nb bb mb F nums noBeg th log) {K r t : Nat} (hI : Inv nums th K) (hl : log.length ≤ K) (hK : K < 1000000) (ht : t < 6) (hQ : QQ r t th) {x : PT} (hx : th[t]? = some x) (hbusy : x.inn = true ∨ x.wt ≠ none) :
    Calls Try.prog 37 #[.pointer (some ⟨rb, 0, none⟩), .int .i64 t, .int .u8 0, .int .i64 0, .int .u64 1] wr fun e w' => e = .returned (.bool true) ∧ GoodQ w rb g nb bb mb (K + 1) r (t + 1) w' := by
  obtain ⟨n, hn⟩ : ∃ n, nums[t]? = some n := ⟨_, List.getElem?_eq_getElem (by have := hI.ln; omega)⟩
  obtain ⟨en, s0, s1, sI, sO⟩ := hI.num t x n hx hn
  cases hwt : x.wt with
  | some p =>
    obtain ⟨b, u⟩ := p
    obtain ⟨a1, a2, a3, a4, sb, l, a5, a6, a7⟩ := hI.wait t x b u hx hwt
    obtain ⟨y, hy⟩ : ∃ y, nums[u.pos]? = some y := ⟨_, List.getElem?_eq_getElem (by have := hI.ln; omega)⟩
    have y0 : 0 ≤ y := by
      obtain ⟨z, hz⟩ : ∃ z, th[u.pos]? = some z := ⟨_, List.getElem?_eq_getElem (by have := hI.lt; omega)⟩
      obtain ⟨-, z0, -, zI, zO⟩ := hI.num u.pos z y hz hy
      cases hzi : z.inn with
      | true => have := zI hzi; omega
      | false => have := zO hzi; omega
    obtain ⟨z, hz⟩ : ∃ z, th[u.pos]? = some z := ⟨_, List.getElem?_eq_getElem (by have := hI.lt; omega)⟩
    obtain ⟨-, -, -, zI, -⟩ := hI.num u.pos z y hz hy
    refine act_wait h t x b u hx en hwt 0 0 1 ((rwait_ok h t x b u hx hwt a2 a3 y hy y0 sb l a5 (by omega) (fun he => hI.ends hx hwt a5 hy he)).mono ?_)
    rintro e w' ⟨rfl, F', log', hr, hl'⟩
    refine ⟨rfl, _, _, F', log', hr, ?_, by omega, hQ.put ?_⟩
    · refine Inv.mono (K := (K : Int)) ?_ (by omega)
      refine hI.turn hx rfl rfl rfl ?_
      intro b' s' hb'
      simp only at hb'
      split at hb'
      · cases hb'
      · simp only [Option.some.injEq, Prod.mk.injEq] at hb'
        obtain ⟨rfl, rfl⟩ := hb'
        obtain ⟨f1, f2⟩ := (step_form u y a2 a3 a4).2 (by omega)
        exact ⟨a1, by omega, f1, f2, sb, l, a5, a6, a7.step hy (fun z' hz' hin => by
          rw [hz] at hz'; obtain rfl := Option.some.inj hz'
          have := zI hin; omega) a2⟩
    · refine .inr ⟨a1, fun b' s' hb' => ?_⟩
      simp only at hb'
      split at hb'
      · cases hb'
      · simp only [Option.some.injEq, Prod.mk.injEq] at hb'
        obtain ⟨rfl, rfl⟩ := hb'
        by_cases hr0 : r = 0
        · omega
        · have hev : y % 2 = 0 := even_word hI hy (fun z' hz' => by
            have := hQ u.pos z' hz'
            rcases this with h | h
            · split at h <;> omega
            · exact h.1)
          rw [step_even u y a2 a4 hev]
          have := hQ t x hx
          rw [if_neg (by omega)] at this
          rcases this with h | h
          · omega
          · have := h.2 b u hwt; omega
  | none =>
    have hin : x.inn = true := by
      rcases hbusy with h | h
      · exact h
      · exact absurd hwt h
    have hnv := sI hin
    refine (act_exit h t x hx en hwt hin 0 0 1 (by decide) (by decide) n hn (by omega) (by omega) (by omega) (by omega)).mono ?_
    rintro e w' ⟨rfl, F', log', hr, hl'⟩
    exact ⟨rfl, _, _, F', log', hr, (hI.exit hx hn hin hwt).mono (by omega), by omega, hQ.put (.inr ⟨rfl, fun b s h => by simp only at h; rw [hwt] at h; cases h⟩)⟩
end
end Go.Proofs.Ytckopbjejjeknaa
