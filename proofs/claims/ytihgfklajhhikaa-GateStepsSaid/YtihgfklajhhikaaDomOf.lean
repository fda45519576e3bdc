
/- domain: count, Values, Of, All: contracts. -/
import Derived.Test.YtihgfklajhhikaaDomCheck
import Derived.IntWalk
namespace Go.Proofs.Ytihgfklajhhikaa
open Go.RowKit Go.Lf

theorem ret_num' {k : IntKind} {a b : Int} (h : a = b) : Ending.returned (.int k a) = .returned (.int k b) := by rw [h]
theorem ret_num2 {k : IntKind} {a b : Int} {v : Value} (h : a = b) : Ending.returned (.tuple #[.int k a, v]) = .returned (.tuple #[.int k b, v]) := by rw [h]

section
variable {a : Option Addr} {c : Nat} {w : World}

/-- The cells of a boxed map. -/
theorem box3 {w1 : World} {x y z : Value} {t : TypeId} (hk : Keep Nil (w.alloc (.cells #[x, y, z] t (0, 0))) w1) : w1.cell? ⟨w.heap.size, 0, none⟩ = some x ∧ w1.cell? ⟨w.heap.size, 1, none⟩ = some y ∧ w1.cell? ⟨w.heap.size, 2, none⟩ = some z := by
  have h := hk.at (heap_alloc_new w _) (fun h => h)
  refine ⟨?_, ?_, ?_⟩ <;> (rw [cell_of h]; rfl)

theorem mod_of {key n : Int} (h : 1 ≤ n ∧ n ≤ 64) : wrap64 (key % n) = ((key % n).toNat : Int) := by
  have := Int.emod_nonneg key (show n ≠ 0 by omega)
  have := Int.emod_lt_of_pos key (show 0 < n by omega)
  unfold wrap64
  omega

theorem shl_or {s v : Nat} (hs : s < 18446744073709551616) (hv : v < 64) : Go.bits .or .u64 (s : Int) (IntKind.u64.wrap (2 ^ v : Int)) = ((s ||| 2 ^ v : Nat) : Int) := by
  rw [wrap_pow hv, bits_or_u64 hs (pow_lt64 hv)]

end
end Go.Proofs.Ytihgfklajhhikaa
