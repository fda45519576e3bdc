/- full: plain facts. -/
import Derived.Test.YtjghenomeindcaaGreatBase
namespace Go.Lf
/-- The error of the arguments of New. -/
def fErr (base n : Int) (len : Nat) : Int := if n < 1 ∨ 64 < n then 2 else if base < 0 ∨ (len : Int) < base + n then 3 else 0
theorem fErr_two {base n : Int} {len : Nat} (h : n < 1 ∨ 64 < n) : fErr base n len = 2 := if_pos h
theorem fErr_three {base n : Int} {len : Nat} (h : ¬ (n < 1 ∨ 64 < n)) (h' : base < 0 ∨ (len : Int) < base + n) : fErr base n len = 3 := (if_neg h).trans (if_pos h')
theorem fErr_zero {base n : Int} {len : Nat} (h : fErr base n len = 0) : 1 ≤ n ∧ n ≤ 64 ∧ 0 ≤ base ∧ base + n ≤ len := by
  unfold fErr at h
  split at h
  · omega
  · split at h <;> omega
/-- The slots below k whose number is odd. -/
def fopens (nums : List Int) (k : Nat) : List Int := ((List.range k).filter (fun i => nums[i]?.getD 0 % 2 == 1)).map Int.ofNat
theorem fopens_yes {nums : List Int} {k : Nat} {x : Int} (h : nums[k]? = some x) (hx : x % 2 = 1) : fopens nums (k + 1) = fopens nums k ++ [(k : Int)] := by
  simp [fopens, List.range_succ, h, hx]
theorem fopens_no {nums : List Int} {k : Nat} {x : Int} (h : nums[k]? = some x) (hx : ¬ x % 2 = 1) : fopens nums (k + 1) = fopens nums k := by
  simp [fopens, List.range_succ, h, hx]
theorem fopens_len (nums : List Int) (k : Nat) : (fopens nums k).length ≤ k := by
  have := List.length_filter_le (fun i => nums[i]?.getD 0 % 2 == 1) (List.range k)
  simpa [fopens] using this
theorem fopens_zero (n k : Nat) : fopens (List.replicate n 0) k = [] := by
  simp [fopens, List.getElem?_replicate]
  intro a _
  split <;> simp
end Go.Lf
