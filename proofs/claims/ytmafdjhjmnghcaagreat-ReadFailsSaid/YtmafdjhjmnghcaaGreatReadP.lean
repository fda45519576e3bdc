/- read: the state of a read. Plain. -/
import Derived.Test.YtmafdjhjmnghcaaGreatFieldP
set_option linter.unusedVariables false
set_option linter.unusedSimpArgs false
namespace Go.Lf
structure RS where
  th : Int
  tower : Int
  tries : Int
  fails : Int
  state : Int
  value : Int
  present : Bool
  ended : Bool
  next : Int
  err : Int
def RS.fin (s : RS) (v : Int) (p : Bool) : RS := { s with value := v, present := p, ended := true, next := 0 }
/-- The kind by which a read goes on. -/
def byKind (lk : Int) (w : Int) : Int := if fOk w = true ∧ fEntry w < lk then fKind w else 2
def RS.by (lk : Int) (s : RS) (w : Int) : RS :=
  if byKind lk w = 0 ∨ byKind lk w = 2 then { s with state := w }.fin 0 false
  else if byKind lk w = 1 then { s with state := w, next := 25 } else { s with state := w, next := 24 }
/-- The word that a step loads: T the tower's first word, D the descriptors. -/
def RS.at (T D : Nat) (s : RS) : Nat := if s.next = 23 then T + 4 else if s.next = 24 then D + (fEntry s.state).toNat else if s.next = 25 then T + 1 else if s.next = 26 then T + 2 else T + 4
/-- A step that has loaded w. -/
def RS.step (lk : Int) (s : RS) (w : Int) : RS :=
  if s.next = 23 then s.by lk w
  else if s.next = 24 then
    (if (fDecide s.state w).2.2 ≠ 0 ∨ (fDecide s.state w).1 = false then s.fin 0 false
     else if (fDecide s.state w).2.1 = true then { s with next := 26 } else { s with next := 25 })
  else if s.next = 25 then s.fin w true
  else if s.next = 26 then { s with value := w, next := 27 }
  else if w = s.state then s.fin s.value true
  else if s.fails + 1 = s.tries then { s with fails := s.fails + 1, err := 11 }.fin 0 false
  else { s with fails := s.fails + 1, value := 0 }.by lk w
theorem byKind_cases (lk w : Int) : byKind lk w = 0 ∨ byKind lk w = 1 ∨ byKind lk w = 2 ∨ byKind lk w = 3 ∨ byKind lk w = 4 ∨ byKind lk w = 5 := by
  unfold byKind
  split
  · rename_i h; exact fOk_kind h.1
  · omega
end Go.Lf
