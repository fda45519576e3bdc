/- Replay in plain terms: which access is possible, what the words are after a list of accesses. -/
import Derived.Test.YtnfkjdmjgphghaaPlain
namespace Go.Lf
open Go.RowKit

/-- Whether kind, old, new and swapped fit together. -/
def kindB (k o n : Int) (s : Bool) : Bool :=
  if k = 1 then (n == o) && !s else if k = 2 then !s else if k = 3 then !s else if k = 4 then s || (n == o) else false

/-- Whether an access is possible at these words. -/
def possB (ws : List Int) (x : Acc) : Bool :=
  decide (errOf x.t x.a ws.length = 0) && (decide (ws[x.a.toNat]? = some x.o) && kindB x.k x.o x.n x.s)

theorem possB_err {ws : List Int} {x : Acc} (h : errOf x.t x.a ws.length ≠ 0) : possB ws x = false := by simp [possB, h]
theorem possB_old {ws : List Int} {x : Acc} {y : Int} (hy : ws[x.a.toNat]? = some y) (h : y ≠ x.o) : possB ws x = false := by simp [possB, hy, h]
theorem possB_kind {ws : List Int} {x : Acc} (h : errOf x.t x.a ws.length = 0) (hy : ws[x.a.toNat]? = some x.o) : possB ws x = kindB x.k x.o x.n x.s := by simp [possB, h, hy]
theorem possB_at {ws : List Int} {x : Acc} (h : possB ws x = true) : 0 ≤ x.t ∧ x.t < 64 ∧ 0 ≤ x.a ∧ x.a < (ws.length : Int) ∧ ws[x.a.toNat]? = some x.o ∧ kindB x.k x.o x.n x.s = true := by
  simp only [possB, Bool.and_eq_true, decide_eq_true_eq] at h
  obtain ⟨h1, h2, h3⟩ := h
  have := errOf_zero.1 h1
  exact ⟨this.1, this.2.1, this.2.2.1, this.2.2.2, h2, h3⟩

/-- The words after a list of accesses, if each is possible. -/
def after : List Int → List Acc → Option (List Int)
  | ws, [] => some ws
  | ws, x :: l => if possB ws x then after (ws.set x.a.toNat x.n) l else none

theorem after_append (ws : List Int) (l m : List Acc) : after ws (l ++ m) = (after ws l).bind (fun c => after c m) := by
  induction l generalizing ws with
  | nil => rfl
  | cons x l ih =>
    simp only [List.cons_append, after]
    split
    · exact ih _
    · rfl
theorem after_snoc {ws cur : List Int} {l : List Acc} {x : Acc} (h : after ws l = some cur) (hp : possB cur x = true) : after ws (l ++ [x]) = some (cur.set x.a.toNat x.n) := by
  rw [after_append, h]; simp [after, hp]
theorem after_take_succ {ws cur : List Int} {l : List Acc} {k : Nat} {x : Acc} (h : after ws (l.take k) = some cur) (hx : l[k]? = some x) (hp : possB cur x = true) : after ws (l.take (k + 1)) = some (cur.set x.a.toNat x.n) := by
  obtain ⟨hk, rfl⟩ := List.getElem?_eq_some_iff.1 hx
  rw [List.take_succ_eq_append_getElem hk]
  exact after_snoc h hp
theorem after_length {ws cur : List Int} {l : List Acc} (h : after ws l = some cur) : cur.length = ws.length := by
  induction l generalizing ws with
  | nil => simp [after] at h; rw [h]
  | cons x l ih =>
    simp only [after] at h
    split at h
    · rw [ih h, List.length_set]
    · cases h

/-- The accesses stop at index k. -/
def BadAt (ws : List Int) (l : List Acc) (k : Nat) : Prop := ∃ cur x, after ws (l.take k) = some cur ∧ l[k]? = some x ∧ possB cur x = false

theorem BadAt.later {ws : List Int} {l : List Acc} {k j : Nat} (h : BadAt ws l k) (hj : k < j) : after ws (l.take j) = none := by
  obtain ⟨cur, x, h1, h2, h3⟩ := h
  obtain ⟨hk, rfl⟩ := List.getElem?_eq_some_iff.1 h2
  have e : l.take j = l.take k ++ l[k] :: (l.drop (k + 1)).take (j - k - 1) := by
    conv => lhs; rw [show j = k + (1 + (j - k - 1)) from by omega]
    rw [List.take_add, List.drop_eq_getElem_cons hk, Nat.add_comm 1, List.take_succ_cons]
  rw [e, after_append, h1]
  simp [after, h3]
theorem BadAt.one {ws : List Int} {l : List Acc} {k j : Nat} (h : BadAt ws l k) (h' : BadAt ws l j) : k = j := by
  rcases Nat.lt_trichotomy k j with hl | hl | hl
  · obtain ⟨cur, x, h1, -⟩ := h'
    rw [h.later hl] at h1; cases h1
  · exact hl
  · obtain ⟨cur, x, h1, -⟩ := h
    rw [h'.later hl] at h1; cases h1
theorem BadAt.none {ws : List Int} {l : List Acc} {k : Nat} (h : BadAt ws l k) : after ws l = none := by
  have hk : k < l.length := by
    obtain ⟨cur, x, h1, h2, h3⟩ := h
    exact lt_of_at h2
  have := h.later hk
  rwa [List.take_of_length_le (Nat.le_refl _)] at this
end Go.Lf
