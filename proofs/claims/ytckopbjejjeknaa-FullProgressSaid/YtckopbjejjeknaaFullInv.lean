/- full: what holds of a run between two acts (plain). -/
import Derived.Test.YtckopbjejjeknaaFullAct3
namespace Go.Lf

/-- Of a wait: what it has to wait for is ahead of it. -/
def Ahead (nums : List Int) (th : List PT) (s : WS) (l : List Int) : Prop :=
  ∀ (j : Nat) (z : PT) (m : Int), th[j]? = some z → l[j]? = some m → m ≤ z.sec ∧ (0 < m → z.inn = true → z.sec = m → s.pos ≤ j ∧ (s.pos = j → s.st = 1 → nums[j]? = some s.first))
structure Inv (nums : List Int) (th : List PT) (K : Int) : Prop where
  ln : nums.length = 6
  lt : th.length = 6
  num : ∀ (i : Nat) (x : PT) (n : Int), th[i]? = some x → nums[i]? = some n → x.en = none ∧ 0 ≤ x.sec ∧ x.sec ≤ K ∧ (x.inn = true → 1 ≤ x.sec ∧ n = 2 * x.sec - 1) ∧ (x.inn = false → n = 2 * x.sec)
  wait : ∀ (i : Nat) (x : PT) (b : Nat) (s : WS), th[i]? = some x → x.wt = some (b, s) → x.inn = false ∧ s.st < 2 ∧ s.pos < 6 ∧ (s.st = 1 → s.first % 2 = 1) ∧ ∃ sb l, x.mu = some (sb, l) ∧ l.length = 6 ∧ Ahead nums th s l

variable {nums : List Int} {th : List PT} {K : Int}
theorem Inv.mono (h : Inv nums th K) {K' : Int} (hk : K ≤ K') : Inv nums th K' :=
  ⟨h.ln, h.lt, fun i x n h1 h2 => by obtain ⟨a, b, c, d, e⟩ := h.num i x n h1 h2; exact ⟨a, b, by omega, d, e⟩, h.wait⟩
theorem set_cases {α : Type} {l : List α} {t : Nat} {x' : α} {i : Nat} {y : α} (h : (l.set t x')[i]? = some y) : (i = t ∧ y = x') ∨ (i ≠ t ∧ l[i]? = some y) := by
  rw [List.getElem?_set] at h
  split at h
  · rename_i e; subst e
    split at h
    · exact .inl ⟨rfl, (Option.some.inj h).symm⟩
    · cases h
  · rename_i e; exact .inr ⟨fun h => e h.symm, h⟩

/-- A section is left. -/
theorem Inv.exit (h : Inv nums th K) {t : Nat} {x : PT} {n : Int} (hx : th[t]? = some x) (hn : nums[t]? = some n) (hin : x.inn = true) (hw : x.wt = none) : Inv (nums.set t (n + 1)) (th.set t { x with inn := false }) K := by
  obtain ⟨a1, a2, a3, a4, a5⟩ := h.num t x n hx hn
  obtain ⟨a4, a6⟩ := a4 hin
  refine ⟨by simp [h.ln], by simp [h.lt], fun i y m h1 h2 => ?_, fun i y b s h1 h2 => ?_⟩
  · rcases set_cases h1 with ⟨e1, e2⟩ | ⟨e1, e2⟩
    · subst e1; subst e2
      rw [List.getElem?_set, if_pos rfl] at h2
      split at h2
      · obtain rfl := Option.some.inj h2
        exact ⟨a1, a2, a3, fun h => by simp at h, fun _ => by simp only; omega⟩
      · cases h2
    · rw [List.getElem?_set, if_neg (fun e => e1 e.symm)] at h2
      exact h.num i y m e2 h2
  · rcases set_cases h1 with ⟨e1, e2⟩ | ⟨e1, e2⟩
    · subst e2; simp only at h2; rw [hw] at h2; cases h2
    · obtain ⟨b1, b2, b3, b4, sb, l, b5, b6, b7⟩ := h.wait i y b s e2 h2
      refine ⟨b1, b2, b3, b4, sb, l, b5, b6, fun j z m h3 h4 => ?_⟩
      rcases set_cases h3 with ⟨f1, f2⟩ | ⟨f1, f2⟩
      · subst f1; subst f2
        exact ⟨(b7 j x m hx h4).1, fun _ h => by simp at h⟩
      · obtain ⟨c1, c2⟩ := b7 j z m f2 h4
        refine ⟨c1, fun h5 h6 h7 => ?_⟩
        obtain ⟨d1, d2⟩ := c2 h5 h6 h7
        exact ⟨d1, fun e1 e2 => by rw [List.getElem?_set, if_neg (fun e => f1 e.symm)]; exact d2 e1 e2⟩
/-- A section is entered. -/
theorem Inv.enter (h : Inv nums th K) {t : Nat} {x : PT} {n : Int} (hx : th[t]? = some x) (hn : nums[t]? = some n) (hin : x.inn = false) (hw : x.wt = none) (v : Int) : Inv (nums.set t (n + 1)) (th.set t { x with inn := true, val := v, sec := x.sec + 1 }) (K + 1) := by
  obtain ⟨a1, a2, a3, a4, a5⟩ := h.num t x n hx hn
  have a5 := a5 hin
  refine ⟨by simp [h.ln], by simp [h.lt], fun i y m h1 h2 => ?_, fun i y b s h1 h2 => ?_⟩
  · rcases set_cases h1 with ⟨e1, e2⟩ | ⟨e1, e2⟩
    · subst e1; subst e2
      rw [List.getElem?_set, if_pos rfl] at h2
      split at h2
      · obtain rfl := Option.some.inj h2
        exact ⟨a1, by simp only; omega, by simp only; omega, fun _ => by simp only; omega, fun h => by simp at h⟩
      · cases h2
    · rw [List.getElem?_set, if_neg (fun e => e1 e.symm)] at h2
      obtain ⟨b1, b2, b3, b4, b5⟩ := h.num i y m e2 h2
      exact ⟨b1, b2, by omega, b4, b5⟩
  · rcases set_cases h1 with ⟨e1, e2⟩ | ⟨e1, e2⟩
    · subst e2; simp only at h2; rw [hw] at h2; cases h2
    · obtain ⟨b1, b2, b3, b4, sb, l, b5, b6, b7⟩ := h.wait i y b s e2 h2
      refine ⟨b1, b2, b3, b4, sb, l, b5, b6, fun j z m h3 h4 => ?_⟩
      rcases set_cases h3 with ⟨f1, f2⟩ | ⟨f1, f2⟩
      · subst f1; subst f2
        have := (b7 j x m hx h4).1
        exact ⟨by simp only; omega, fun _ _ h => by simp only at h; omega⟩
      · obtain ⟨c1, c2⟩ := b7 j z m f2 h4
        refine ⟨c1, fun h5 h6 h7 => ?_⟩
        obtain ⟨d1, d2⟩ := c2 h5 h6 h7
        exact ⟨d1, fun e1 e2 => by rw [List.getElem?_set, if_neg (fun e => f1 e.symm)]; exact d2 e1 e2⟩
/-- A step of a wait at the word y keeps ahead what is ahead. -/
theorem Ahead.step {s : WS} {l : List Int} {y : Int} (h : Ahead nums th s l) (hy : nums[s.pos]? = some y) (hodd : ∀ z, th[s.pos]? = some z → z.inn = true → y % 2 = 1) (h1 : s.st < 2) : Ahead nums th (s.step 6 y) l := by
  intro j z m h2 h3
  obtain ⟨a1, a2⟩ := h j z m h2 h3
  refine ⟨a1, fun h4 h5 h6 => ?_⟩
  obtain ⟨b1, b2⟩ := a2 h4 h5 h6
  have stay : s.pos = j → y % 2 = 1 := fun e => hodd z (e ▸ h2) h5
  unfold WS.step
  split
  · split
    · have hne : s.pos ≠ j := fun e => by have := stay e; omega
      unfold WS.next
      split
      · exact ⟨by simp only; omega, fun _ h => by simp at h⟩
      · exact ⟨by simp only; omega, fun _ h => by simp at h⟩
    · exact ⟨b1, fun e _ => by simp only at e ⊢; rw [← e]; exact hy⟩
  · rename_i h7
    split
    · exact ⟨b1, b2⟩
    · rename_i h8
      have hne : s.pos ≠ j := fun e => by
        have := b2 e (by omega)
        rw [← e, hy] at this
        exact h8 (Option.some.inj this)
      unfold WS.next
      split
      · exact ⟨by simp only; omega, fun _ h => by simp at h⟩
      · exact ⟨by simp only; omega, fun _ h => by simp at h⟩
theorem step_form (s : WS) (y : Int) (h1 : s.st < 2) (h2 : s.pos < 6) (h3 : s.st = 1 → s.first % 2 = 1) : (2 ≤ (s.step 6 y).st → (s.step 6 y).pos = 6) ∧ ((s.step 6 y).st < 2 → (s.step 6 y).pos < 6 ∧ ((s.step 6 y).st = 1 → (s.step 6 y).first % 2 = 1)) := by
  unfold WS.step
  split
  · split
    · unfold WS.next
      split
      · exact ⟨fun _ => by simp only; omega, fun h => by simp at h⟩
      · exact ⟨fun h => by simp at h, fun _ => ⟨by simp only; omega, fun h => by simp at h⟩⟩
    · exact ⟨fun h => by simp at h, fun _ => ⟨h2, fun _ => by simp only; omega⟩⟩
  · split
    · exact ⟨fun h => by omega, fun _ => ⟨h2, h3⟩⟩
    · unfold WS.next
      split
      · exact ⟨fun _ => by simp only; omega, fun h => by simp at h⟩
      · exact ⟨fun h => by simp at h, fun _ => ⟨by simp only; omega, fun h => by simp at h⟩⟩
/-- Only what is said of sections counts. -/
theorem Ahead.same {s : WS} {l : List Int} (h : Ahead nums th s l) {t : Nat} {x x' : PT} (hx : th[t]? = some x) (h1 : x'.inn = x.inn) (h2 : x'.sec = x.sec) : Ahead nums (th.set t x') s l := by
  intro j z m h3 h4
  rcases set_cases h3 with ⟨f1, f2⟩ | ⟨f1, f2⟩
  · subst f1; subst f2
    rw [h1, h2]
    exact h j x m hx h4
  · exact h j z m f2 h4
/-- A wait has made a step, or has begun. -/
theorem Inv.turn (h : Inv nums th K) {t : Nat} {x x' : PT} (hx : th[t]? = some x) (h1 : x'.inn = x.inn) (h2 : x'.sec = x.sec) (h3 : x'.en = x.en) (hw : ∀ b s, x'.wt = some (b, s) → x'.inn = false ∧ s.st < 2 ∧ s.pos < 6 ∧ (s.st = 1 → s.first % 2 = 1) ∧ ∃ sb l, x'.mu = some (sb, l) ∧ l.length = 6 ∧ Ahead nums th s l) : Inv nums (th.set t x') K := by
  refine ⟨h.ln, by simp [h.lt], fun i y m h4 h5 => ?_, fun i y b s h4 h5 => ?_⟩
  · rcases set_cases h4 with ⟨e1, e2⟩ | ⟨e1, e2⟩
    · subst e1; subst e2
      rw [h1, h2, h3]
      exact h.num i x m hx h5
    · exact h.num i y m e2 h5
  · rcases set_cases h4 with ⟨e1, e2⟩ | ⟨e1, e2⟩
    · subst e2
      obtain ⟨b1, b2, b3, b4, sb, l, b5, b6, b7⟩ := hw b s h5
      exact ⟨b1, b2, b3, b4, sb, l, b5, b6, b7.same hx h1 h2⟩
    · obtain ⟨b1, b2, b3, b4, sb, l, b5, b6, b7⟩ := h.wait i y b s e2 h5
      exact ⟨b1, b2, b3, b4, sb, l, b5, b6, b7.same hx h1 h2⟩
theorem ahead_begin (h : Inv nums th K) : Ahead nums th ⟨0, 0, 0⟩ (mList th 6) := by
  intro j z m h1 h2
  have hj : j < 6 := by have := lt_of_at h1; have := h.lt; omega
  rw [mList_at th 6 j hj, if_pos hj, h1] at h2
  have hm := Option.some.inj h2
  simp only at hm
  obtain ⟨n, hn⟩ : ∃ n, nums[j]? = some n := ⟨_, List.getElem?_eq_getElem (by have := h.ln; omega)⟩
  have := (h.num j z n h1 hn).2.1
  refine ⟨by rw [← hm]; split <;> omega, fun _ _ _ => ⟨Nat.zero_le _, fun _ h => by simp at h⟩⟩
/-- A wait that ends has nothing to wait for. -/
theorem Inv.ends (h : Inv nums th K) {t : Nat} {x : PT} {b : Nat} {s : WS} {sb : Nat} {l : List Int} {y : Int} (hx : th[t]? = some x) (hb : x.wt = some (b, s)) (hm : x.mu = some (sb, l)) (hy : nums[s.pos]? = some y) (he : 2 ≤ (s.step 6 y).st) :
    ∀ (i : Nat) (z : PT) (m : Int), th[i]? = some z → l[i]? = some m → ¬ (0 < m ∧ z.inn = true ∧ z.sec = m) := by
  obtain ⟨a1, a2, a3, a4, sb', l', a5, a6, a7⟩ := h.wait t x b s hx hb
  rw [hm] at a5
  simp only [Option.some.injEq, Prod.mk.injEq] at a5
  obtain ⟨-, rfl⟩ := a5
  intro i z m h1 h2 ⟨h3, h4, h5⟩
  have ha := a7.step hy (fun z hz hin => by have := (h.num s.pos z y hz hy).2.2.2.1 hin; omega) a2
  have := ((ha i z m h1 h2).2 h3 h4 h5).1
  have := (step_form s y a2 a3 a4).1 he
  have := lt_of_at h1
  have := h.lt
  omega
end Go.Lf
