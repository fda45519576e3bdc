/- Plain model of the shared memory: an access, its cells, the error of an access, a list of numbers as cells. No program is named here. -/
import Derived.Test.YtjghenomeindcaaGreatBase
namespace Go.Lf
open Go.RowKit

/-- An access: thread, address, kind, old, new, swapped. -/
structure Acc where
  t : Int
  a : Int
  k : Int
  o : Int
  n : Int
  s : Bool

/-- The numbers of an access fit their kinds. -/
def Acc.wf (x : Acc) : Prop := (Lit.int .i64 x.t).wf = true ∧ (Lit.int .i64 x.a).wf = true ∧ (Lit.int .u8 x.k).wf = true ∧ (Lit.int .u64 x.o).wf = true ∧ (Lit.int .u64 x.n).wf = true
def Acc.cells (x : Acc) : List Value := [.int .i64 x.t, .int .i64 x.a, .int .u8 x.k, .int .u64 x.o, .int .u64 x.n, .bool x.s]
def logCells (l : List Acc) : List Value := l.flatMap Acc.cells
def u64s (ws : List Int) : List Value := ws.map (Value.int .u64)

theorem length_logCells (l : List Acc) : (logCells l).length = l.length * 6 := by
  induction l with
  | nil => rfl
  | cons x l ih => simp [logCells, Acc.cells] at *; omega
theorem logCells_snoc (l : List Acc) (x : Acc) : logCells (l ++ [x]) = logCells l ++ x.cells := by simp [logCells]
theorem logCells_one (l : List Acc) : ∀ v ∈ logCells l, v.oneCell' = true := by
  intro v hv
  simp only [logCells, List.mem_flatMap] at hv
  obtain ⟨x, -, hx⟩ := hv
  simp [Acc.cells] at hx
  rcases hx with rfl | rfl | rfl | rfl | rfl | rfl <;> rfl
theorem logCells_append (l m : List Acc) : logCells (l ++ m) = logCells l ++ logCells m := by simp [logCells]
theorem logCells_drop {l : List Acc} {k j : Nat} {u : Value} (h : (logCells (l.drop k))[j]? = some u) : (logCells l)[k * 6 + j]? = some u := by
  have hk : k ≤ l.length := by
    rcases Nat.lt_or_ge l.length k with h' | h'
    · rw [List.drop_eq_nil_of_le (by omega)] at h; simp [logCells] at h
    · exact h'
  have e : logCells l = logCells (l.take k) ++ logCells (l.drop k) := by rw [← logCells_append, List.take_append_drop]
  have hl : (logCells (l.take k)).length = k * 6 := by rw [length_logCells, List.length_take, Nat.min_eq_left hk]
  rw [e, List.getElem?_append_right (by omega), hl, Nat.add_sub_cancel_left]
  exact h
theorem logCells_at {l : List Acc} {k j : Nat} {x : Acc} {u : Value} (hx : l[k]? = some x) (hu : x.cells[j]? = some u) : (logCells l)[k * 6 + j]? = some u := by
  refine logCells_drop ?_
  have hk := (List.getElem?_eq_some_iff.1 hx)
  obtain ⟨h, rfl⟩ := hk
  rw [List.drop_eq_getElem_cons h]
  show (l[k].cells ++ _)[j]? = some u
  rw [List.getElem?_append_left (List.getElem?_eq_some_iff.1 hu).1]
  exact hu
theorem u64s_one (l : List Int) : ∀ v ∈ u64s l, v.oneCell' = true := by
  intro v hv
  simp only [u64s, List.mem_map] at hv
  obtain ⟨x, -, rfl⟩ := hv
  rfl
theorem length_u64s (ws : List Int) : (u64s ws).length = ws.length := by simp [u64s]
theorem u64s_at {ws : List Int} {i : Nat} {x : Int} (h : ws[i]? = some x) : (u64s ws)[i]? = some (.int .u64 x) := by simp [u64s, h]
theorem u64s_set (ws : List Int) (i : Nat) (x : Int) : (u64s ws).set i (.int .u64 x) = u64s (ws.set i x) := by simp [u64s, List.map_set]
theorem set_self {α : Type} {l : List α} {i : Nat} {x : α} (h : l[i]? = some x) : l.set i x = l := by
  apply List.ext_getElem?
  intro j
  rw [List.getElem?_set]
  split
  · rename_i e; subst e; split
    · exact h.symm
    · rename_i hn; rw [List.getElem?_eq_none (by omega)]
  · rfl
theorem lt_of_at {α : Type} {l : List α} {i : Nat} {x : α} (h : l[i]? = some x) : i < l.length := (List.getElem?_eq_some_iff.1 h).1

/-- The error of an access of thread t to address i, n words. -/
def errOf (t i : Int) (n : Nat) : Int := if t < 0 ∨ 64 ≤ t then 2 else if i < 0 ∨ (n : Int) ≤ i then 3 else 0

theorem errOf_zero {t i : Int} {n : Nat} : errOf t i n = 0 ↔ 0 ≤ t ∧ t < 64 ∧ 0 ≤ i ∧ i < (n : Int) := by
  unfold errOf
  split
  · omega
  · split <;> omega
theorem errOf_bd (t i : Int) (n : Nat) : 0 ≤ errOf t i n ∧ errOf t i n ≤ 3 := by
  unfold errOf
  split
  · omega
  · split <;> omega

/-- The error of a number of words. -/
def szErr (n : Int) : Int := if n = 0 then 2 else if 65536 < n then 5 else 0
theorem szErr_zero {n : Int} (h : n = 0) : szErr n = 2 := by simp [szErr, h]
theorem szErr_big {n : Int} (h : 65536 < n) : szErr n = 5 := by unfold szErr; rw [if_neg (by omega), if_pos h]
theorem szErr_ok {n : Int} (h : 0 < n) (h' : n ≤ 65536) : szErr n = 0 := by unfold szErr; rw [if_neg (by omega), if_neg (by omega)]

/-- The first k of ws, zeros behind them. -/
def filled (ws : List Int) (k : Nat) : List Int := ws.take k ++ List.replicate (ws.length - k) 0
theorem length_filled (ws : List Int) (k : Nat) (h : k ≤ ws.length) : (filled ws k).length = ws.length := by simp [filled]; omega
theorem filled_zero (ws : List Int) : filled ws 0 = List.replicate ws.length 0 := by simp [filled]
theorem filled_all (ws : List Int) : filled ws ws.length = ws := by simp [filled]
theorem filled_set (ws : List Int) (k : Nat) (x : Int) (h : ws[k]? = some x) : (filled ws k).set k x = filled ws (k + 1) := by
  obtain ⟨hk, hx⟩ := List.getElem?_eq_some_iff.1 h
  have hl : (ws.take k).length = k := by simp; omega
  unfold filled
  rw [List.set_append, if_neg (by omega), hl, Nat.sub_self, List.take_succ_eq_append_getElem hk, hx, List.append_assoc]
  congr 1
  obtain ⟨m, hm⟩ : ∃ m, ws.length - k = m + 1 := ⟨ws.length - k - 1, by omega⟩
  rw [hm, show ws.length - (k + 1) = m from by omega]
  simp [List.replicate_succ]
theorem filled_at (ws : List Int) (k : Nat) (h : k < ws.length) : (filled ws k)[k]? = some 0 := by
  have hl : (ws.take k).length = k := by simp; omega
  unfold filled
  rw [List.getElem?_append_right (by omega), hl, Nat.sub_self, List.getElem?_replicate, if_pos (by omega)]
end Go.Lf
