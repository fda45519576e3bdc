/- each: a wait as data. -/
import Derived.Test.YtldjlcdccnnogaaGreatBase
namespace Go.Lf
/-- A wait: its slot, what it does next (0 looks, 1 marks, 2 awaits, 3 nothing), the odd number. -/
structure EWS where
  pos : Nat
  st : Nat
  seen : Int
/-- Whether a set has a value. -/
def conc (set x : Int) : Bool := decide (0 ≤ x ∧ x < 64) && set.toNat.testBit x.toNat
def EWS.next (n : Nat) (s : EWS) : EWS := if s.pos + 1 = n then { s with pos := s.pos + 1, st := 3 } else { s with pos := s.pos + 1, st := 0 }
def EWS.step (n : Nat) (set x : Int) (s : EWS) : EWS :=
  if s.st = 0 then (if x % 2 = 1 then { s with seen := x, st := 1 } else ({ s with seen := x } : EWS).next n)
  else if s.st = 1 then (if conc set x then { s with st := 2 } else s.next n)
  else if x = s.seen then s else s.next n
def EWS.addr (s : EWS) : Nat := 2 * s.pos + (if s.st = 1 then 1 else 0)
theorem EWS.next_pos (n : Nat) (s : EWS) : (s.next n).pos = s.pos + 1 ∧ (s.next n).seen = s.seen ∧ ((s.next n).st = 3 ∧ s.pos + 1 = n ∨ (s.next n).st = 0 ∧ s.pos + 1 ≠ n) := by
  unfold EWS.next
  split
  · rename_i h; exact ⟨rfl, rfl, .inl ⟨rfl, h⟩⟩
  · rename_i h; exact ⟨rfl, rfl, .inr ⟨rfl, h⟩⟩
theorem EWS.step_cases (set x : Int) (s : EWS) (n : Nat) :
    (s.st = 0 ∧ x % 2 = 1 ∧ s.step n set x = ⟨s.pos, 1, x⟩) ∨ (s.st = 0 ∧ x % 2 ≠ 1 ∧ s.step n set x = EWS.next n ⟨s.pos, s.st, x⟩) ∨
    (s.st = 1 ∧ conc set x = true ∧ s.step n set x = ⟨s.pos, 2, s.seen⟩) ∨ (s.st = 1 ∧ conc set x = false ∧ s.step n set x = s.next n) ∨
    (2 ≤ s.st ∧ x = s.seen ∧ s.step n set x = s) ∨ (2 ≤ s.st ∧ x ≠ s.seen ∧ s.step n set x = s.next n) := by
  unfold EWS.step
  by_cases h0 : s.st = 0
  · rw [if_pos h0]
    by_cases h1 : x % 2 = 1
    · rw [if_pos h1]; exact .inl ⟨h0, h1, rfl⟩
    · rw [if_neg h1]; exact .inr (.inl ⟨h0, h1, rfl⟩)
  · rw [if_neg h0]
    by_cases h2 : s.st = 1
    · rw [if_pos h2]
      cases hc : conc set x with
      | true => rw [if_pos rfl]; exact .inr (.inr (.inl ⟨h2, rfl, rfl⟩))
      | false => rw [if_neg (by decide)]; exact .inr (.inr (.inr (.inl ⟨h2, rfl, rfl⟩)))
    · rw [if_neg h2]
      by_cases h3 : x = s.seen
      · rw [if_pos h3]; exact .inr (.inr (.inr (.inr (.inl ⟨by omega, h3, rfl⟩))))
      · rw [if_neg h3]; exact .inr (.inr (.inr (.inr (.inr ⟨by omega, h3, rfl⟩))))
/-- What a step of a live wait makes of its form. -/
theorem EWS.step_form (set y : Int) (s : EWS) (h1 : s.st < 3) (h2 : s.pos < 6) (h3 : s.st ≠ 0 → s.seen % 2 = 1) :
    ((s.step 6 set y).st = 3 → (s.step 6 set y).pos = 6) ∧ ((s.step 6 set y).st ≠ 3 → (s.step 6 set y).st < 3 ∧ (s.step 6 set y).pos < 6 ∧ ((s.step 6 set y).st ≠ 0 → (s.step 6 set y).seen % 2 = 1)) := by
  have nx : ∀ u : EWS, u.pos = s.pos → ((u.next 6).st = 3 → (u.next 6).pos = 6) ∧ ((u.next 6).st ≠ 3 → (u.next 6).st < 3 ∧ (u.next 6).pos < 6 ∧ ((u.next 6).st ≠ 0 → (u.next 6).seen % 2 = 1)) := by
    intro u hu
    obtain ⟨a1, a2, a3⟩ := u.next_pos 6
    rcases a3 with ⟨a, b⟩ | ⟨a, b⟩
    · exact ⟨fun _ => by omega, fun h => absurd a h⟩
    · exact ⟨fun h => by omega, fun _ => ⟨by omega, by omega, fun h => absurd a h⟩⟩
  rcases s.step_cases set y 6 with ⟨a, b, c⟩ | ⟨a, b, c⟩ | ⟨a, b, c⟩ | ⟨a, b, c⟩ | ⟨a, b, c⟩ | ⟨a, b, c⟩
  · rw [c]; exact ⟨fun h => by simp at h, fun _ => ⟨by simp, h2, fun _ => b⟩⟩
  · rw [c]; exact nx _ rfl
  · rw [c]; exact ⟨fun h => by simp at h, fun _ => ⟨by simp, h2, fun _ => h3 (by omega)⟩⟩
  · rw [c]; exact nx _ rfl
  · rw [c]; exact ⟨fun h => by omega, fun _ => ⟨h1, h2, fun _ => h3 (by omega)⟩⟩
  · rw [c]; exact nx _ rfl
end Go.Lf
