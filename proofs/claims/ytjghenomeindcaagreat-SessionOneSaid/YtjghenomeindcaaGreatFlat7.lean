/- Lists of seven cells for each thread. -/
import Derived.Test.YtjghenomeindcaaGreatBase
namespace Go.Lf
theorem flat7 {α β : Type} (f : α → List β) (hf : ∀ a, (f a).length = 7) (l : List α) (pre : List β) {t : Nat} {x : α} (hx : l[t]? = some x) {j : Nat} (hj : j < 7) : (pre ++ l.flatMap f)[pre.length + t * 7 + j]? = (f x)[j]? := by
  rw [show pre.length + t * 7 + j = pre.length + (t * 7 + j) by omega, List.getElem?_append_right (by omega), show pre.length + (t * 7 + j) - pre.length = t * 7 + j by omega]
  induction l generalizing t with
  | nil => simp at hx
  | cons a l ih =>
    cases t with
    | zero =>
      simp at hx; subst hx
      rw [List.flatMap_cons, List.getElem?_append_left (by have := hf a; omega)]
      simp
    | succ t =>
      have h1 := ih (t := t) (by simpa using hx)
      rw [List.flatMap_cons, List.getElem?_append_right (by have := hf a; omega), hf a, show (t + 1) * 7 + j - 7 = t * 7 + j by omega]
      exact h1
theorem flat7_set {α β : Type} (f : α → List β) (hf : ∀ a, (f a).length = 7) (l : List α) (pre : List β) {t : Nat} {x x' : α} (hx : l[t]? = some x) {j : Nat} (hj : j < 7) (v : β) (he : f x' = (f x).set j v) : (pre ++ l.flatMap f).set (pre.length + t * 7 + j) v = pre ++ (l.set t x').flatMap f := by
  rw [show pre.length + t * 7 + j = pre.length + (t * 7 + j) by omega, List.set_append_right _ _ (by omega), show pre.length + (t * 7 + j) - pre.length = t * 7 + j by omega]
  congr 1
  induction l generalizing t with
  | nil => simp at hx
  | cons a l ih =>
    cases t with
    | zero =>
      simp at hx; subst hx
      rw [List.flatMap_cons, List.set_append_left _ _ (by have := hf a; omega), List.set_cons_zero, List.flatMap_cons, he]
      simp
    | succ t =>
      have h1 := ih (t := t) (by simpa using hx)
      rw [List.flatMap_cons, List.set_append_right _ _ (by have := hf a; omega), hf a, show (t + 1) * 7 + j - 7 = t * 7 + j by omega, List.set_cons_succ, List.flatMap_cons, h1]
theorem flat7_same {α β : Type} (f : α → List β) (l : List α) {t : Nat} {x x' : α} (hx : l[t]? = some x) (he : f x' = f x) : (l.set t x').flatMap f = l.flatMap f := by
  induction l generalizing t with
  | nil => rfl
  | cons a l ih =>
    cases t with
    | zero =>
      simp at hx; subst hx
      simp [he]
    | succ t => simp [ih (t := t) (by simpa using hx)]
theorem flatn_at {α β : Type} (f : α → List β) (n : Nat) (hf : ∀ a, (f a).length = n) (l : List α) {t : Nat} {x : α} (hx : l[t]? = some x) {j : Nat} (hj : j < n) : (l.flatMap f)[t * n + j]? = (f x)[j]? := by
  induction l generalizing t with
  | nil => simp at hx
  | cons a l ih =>
    cases t with
    | zero =>
      simp at hx; subst hx
      rw [List.flatMap_cons, List.getElem?_append_left (by have := hf a; omega)]
      simp
    | succ t =>
      have h1 := ih (t := t) (by simpa using hx)
      rw [List.flatMap_cons, List.getElem?_append_right (by rw [hf a, Nat.succ_mul]; omega), hf a, show (t + 1) * n + j - n = t * n + j by rw [Nat.succ_mul]; omega]
      exact h1
theorem flatn_set {α β : Type} (f : α → List β) (n : Nat) (hf : ∀ a, (f a).length = n) (l : List α) {t : Nat} {x x' : α} (hx : l[t]? = some x) {j : Nat} (hj : j < n) (v : β) (he : f x' = (f x).set j v) : (l.flatMap f).set (t * n + j) v = (l.set t x').flatMap f := by
  induction l generalizing t with
  | nil => simp at hx
  | cons a l ih =>
    cases t with
    | zero =>
      simp at hx; subst hx
      rw [List.flatMap_cons, List.set_append_left _ _ (by have := hf a; omega), List.set_cons_zero, List.flatMap_cons, he]
      simp
    | succ t =>
      have h1 := ih (t := t) (by simpa using hx)
      rw [List.flatMap_cons, List.set_append_right _ _ (by rw [hf a, Nat.succ_mul]; omega), hf a, show (t + 1) * n + j - n = t * n + j by rw [Nat.succ_mul]; omega, List.set_cons_succ, List.flatMap_cons, h1]
theorem set_cases {α : Type} {l : List α} {t : Nat} {x' : α} {i : Nat} {y : α} (h : (l.set t x')[i]? = some y) : (i = t ∧ y = x') ∨ (i ≠ t ∧ l[i]? = some y) := by
  rw [List.getElem?_set] at h
  split at h
  · rename_i e; subst e
    split at h
    · exact .inl ⟨rfl, (Option.some.inj h).symm⟩
    · cases h
  · rename_i e; exact .inr ⟨fun h => e h.symm, h⟩
theorem put_self {α : Type} {l : List α} {i : Nat} {x : α} (h : l[i]? = some x) (y : α) : (l.set i y)[i]? = some y := by
  rw [List.getElem?_set, if_pos rfl, if_pos (by obtain ⟨h1, -⟩ := List.getElem?_eq_some_iff.1 h; exact h1)]
theorem set_eq {α : Type} {l : List α} {i : Nat} {x : α} (h : l[i]? = some x) : l.set i x = l := by
  obtain ⟨h1, h2⟩ := List.getElem?_eq_some_iff.1 h
  rw [← h2]; exact List.set_getElem_self h1
end Go.Lf
