/- The error of the arguments of New of an engine of n parts of k words, at most bd parts. -/
import Derived.Test.YtjghenomeindcaaGreatBase
namespace Go.Lf
def pErr (k bd base n : Int) (len : Nat) : Int := if n < 1 ∨ bd < n then 2 else if base < 0 ∨ (len : Int) < base + k * n then 3 else 0
theorem pErr_two {k bd base n : Int} {len : Nat} (h : n < 1 ∨ bd < n) : pErr k bd base n len = 2 := if_pos h
theorem pErr_three {k bd base n : Int} {len : Nat} (h : ¬ (n < 1 ∨ bd < n)) (h' : base < 0 ∨ (len : Int) < base + k * n) : pErr k bd base n len = 3 := (if_neg h).trans (if_pos h')
theorem pErr_zero {k bd base n : Int} {len : Nat} (h : pErr k bd base n len = 0) : 1 ≤ n ∧ n ≤ bd ∧ 0 ≤ base ∧ base + k * n ≤ len := by
  unfold pErr at h
  split at h
  · omega
  · split at h <;> omega
end Go.Lf
