/- A call of a method of the memory, as data. -/
import Derived.Test.YtihgfklajhhikaaPlain
namespace Go.Lf
open Go.RowKit

structure Do where
  w : Int
  t : Int
  a : Int
  o : Int
  v : Int
def Do.cells (x : Do) : List Value := [.int .u8 x.w, .int .i64 x.t, .int .i64 x.a, .int .u64 x.o, .int .u64 x.v]
def Do.wf (x : Do) : Prop := (Lit.int .u8 x.w).wf = true ∧ (Lit.int .i64 x.t).wf = true ∧ (Lit.int .i64 x.a).wf = true ∧ (Lit.int .u64 x.o).wf = true ∧ (Lit.int .u64 x.v).wf = true
def doCells (l : List Do) : List Value := l.flatMap Do.cells
theorem flat_get {α : Type} {cells : α → List Value} {size : Nat} (hlen : ∀ y, (cells y).length = size) : ∀ {l : List α} {k j : Nat} {x : α} {u : Value}, l[k]? = some x → (cells x)[j]? = some u → (l.flatMap cells)[k * size + j]? = some u := by
  intro l
  induction l with
  | nil => intro k j x u h; simp at h
  | cons z l ih =>
    intro k j x u h hu
    rw [List.flatMap_cons]
    cases k with
    | zero =>
      simp at h; subst h
      rw [Nat.zero_mul, Nat.zero_add, List.getElem?_append_left (List.getElem?_eq_some_iff.1 hu).1]
      exact hu
    | succ k =>
      rw [List.getElem?_append_right (by rw [hlen, Nat.add_mul]; omega), hlen, show (k + 1) * size + j - size = k * size + j from by rw [Nat.add_mul]; omega]
      exact ih (by simpa using h) hu
theorem doCells_at {l : List Do} {k j : Nat} {x : Do} {u : Value} (hx : l[k]? = some x) (hu : x.cells[j]? = some u) : (doCells l)[k * 5 + j]? = some u := flat_get (size := 5) (fun _ => rfl) hx hu
end Go.Lf
