
/- domain: Check, ascending, count, Values; and those of the reference: contracts. -/
import Derived.Test.YtldjlcdccnnogaaGreatProg
import Derived.Test.YtldjlcdccnnogaaGreatBase
import Derived.Test.YtldjlcdccnnogaaGreatDomPlain
import Derived.Deep.QuietTactic
import Derived.IntWalk
namespace Go.Proofs.YtldjlcdccnnogaaGreat
open Go.RowKit Go.Lf

/-- A map as a value. -/
def dv (d : Dom) (a : Option Addr) (c : Nat) : Value := .agg #[.int .u8 d.k, .int .i64 d.n, .slice a d.cuts.length c]

section
variable {cuts : List Int} {a : Option Addr} {c : Nat} {w : World}

theorem rd_cut (hrd : Rd w 1 (.slice a cuts.length c) cuts.length (u64s cuts)) {i : Nat} (hi : i < cuts.length) : ∃ b off, a = some ⟨b, off, none⟩ ∧ ∀ j, j < cuts.length → w.cell? ⟨b, off + j, none⟩ = some (.int .u64 (gcut cuts j)) := by
  obtain ⟨b, off, c', hv, hc⟩ := Rd.cell hrd (by omega)
  simp only [Value.slice.injEq] at hv
  exact ⟨b, off, hv.1, fun j hj => hc j _ (u64s_at (gcut_at hj))⟩

end

section
variable {a : Option Addr} {c : Nat} {w : World}

end
end Go.Proofs.YtldjlcdccnnogaaGreat

/-! domain: count, Values, Of, All: contracts. -/
namespace Go.Proofs.YtldjlcdccnnogaaGreat
open Go.RowKit Go.Lf

theorem ret_num' {k : IntKind} {a b : Int} (h : a = b) : Ending.returned (.int k a) = .returned (.int k b) := by rw [h]
theorem ret_num2 {k : IntKind} {a b : Int} {v : Value} (h : a = b) : Ending.returned (.tuple #[.int k a, v]) = .returned (.tuple #[.int k b, v]) := by rw [h]

section
variable {a : Option Addr} {c : Nat} {w : World}

/-- The cells of a boxed map. -/
theorem box3 {w1 : World} {x y z : Value} {t : TypeId} (hk : Keep Nil (w.alloc (.cells #[x, y, z] t (0, 0))) w1) : w1.cell? ⟨w.heap.size, 0, none⟩ = some x ∧ w1.cell? ⟨w.heap.size, 1, none⟩ = some y ∧ w1.cell? ⟨w.heap.size, 2, none⟩ = some z := by
  have h := hk.at (heap_alloc_new w _) (fun h => h)
  refine ⟨?_, ?_, ?_⟩ <;> (rw [cell_of h]; rfl)

theorem mod_of {key n : Int} (h : 1 ≤ n ∧ n ≤ 64) : wrap64 (key % n) = ((key % n).toNat : Int) := by
  have := Int.emod_nonneg key (show n ≠ 0 by omega)
  have := Int.emod_lt_of_pos key (show 0 < n by omega)
  unfold wrap64
  omega

theorem shl_or {s v : Nat} (hs : s < 18446744073709551616) (hv : v < 64) : Go.bits .or .u64 (s : Int) (IntKind.u64.wrap (2 ^ v : Int)) = ((s ||| 2 ^ v : Nat) : Int) := by
  rw [wrap_pow hv, bits_or_u64 hs (pow_lt64 hv)]

end
end Go.Proofs.YtldjlcdccnnogaaGreat
