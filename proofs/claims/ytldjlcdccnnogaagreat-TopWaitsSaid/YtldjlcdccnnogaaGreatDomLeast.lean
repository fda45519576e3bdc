
/- domain: least, Least, Image; span.Check: contracts. -/
import Derived.Test.YtldjlcdccnnogaaGreatDomCheck
namespace Go.Proofs.YtldjlcdccnnogaaGreat
open Go.RowKit Go.Lf

/-- What least returns. -/
def leastV (o : Option Int) : Value := match o with
  | some x => .tuple #[.int .u64 x, .bool true]
  | none => .tuple #[.int .u64 0, .bool false]
/-- What Least returns. -/
def leastV3 (o : Option Int) : Value := match o with
  | some x => .tuple #[.int .u64 x, .bool true, .int .i64 0]
  | none => .tuple #[.int .u64 0, .bool false, .int .i64 0]

section
variable {a : Option Addr} {c : Nat} {w : World}

theorem by_val {v n x : Int} (h0 : 0 ≤ v) (h1 : v < n) (h2 : n ≤ 64) : 0 ≤ v + n - x % n ∧ v + n - x % n < 1000 ∧ 0 ≤ x % n ∧ x % n < n ∧ 0 ≤ (v + n - x % n) % n ∧ (v + n - x % n) % n < n := by
  have := Int.emod_nonneg x (show n ≠ 0 by omega)
  have := Int.emod_lt_of_pos x (show 0 < n by omega)
  exact ⟨by omega, by omega, by omega, by omega, Int.emod_nonneg _ (by omega), Int.emod_lt_of_pos _ (by omega)⟩

theorem least_three {d : Dom} (h : d.k = 3) (v : Nat) (x : Int) : d.least v x = if v < d.cuts.length ∧ gcut d.cuts v ≤ x then none else some (if x < prv d.cuts v then prv d.cuts v else x) := by
  unfold Dom.least; rw [if_neg (by omega), if_pos h]

theorem inImg_some {d : Dom} {lo hi y : Int} {v : Nat} (h : d.least v lo = some y) : d.inImg lo hi v = decide (y ≤ hi) := by unfold Dom.inImg; rw [h]
theorem inImg_none {d : Dom} {lo hi : Int} {v : Nat} (h : d.least v lo = none) : d.inImg lo hi v = false := by unfold Dom.inImg; rw [h]

end
end Go.Proofs.YtldjlcdccnnogaaGreat
