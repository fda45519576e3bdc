/- More plain facts on maps from keys to domain values. No program is named here. -/
import Derived.Test.YtfpobagkananeaaDomMap
namespace Go.Lf
open Go.RowKit
theorem andNot_zero {a b : Nat} (ha : a < 18446744073709551616) (hb : b < 18446744073709551616) (h : ∀ i, a.testBit i = true → b.testBit i = true) : Go.bits .andNot .u64 (a : Int) (b : Int) = 0 := by
  show IntKind.u64.wrap ((BitVec.ofInt 64 (a : Int) &&& ~~~ BitVec.ofInt 64 (b : Int)).toNat : Int) = _
  have e : BitVec.ofInt 64 (a : Int) &&& ~~~ BitVec.ofInt 64 (b : Int) = 0#64 := by
    apply BitVec.eq_of_getLsbD_eq
    intro i hi
    rw [BitVec.getLsbD_and, BitVec.getLsbD_not, BitVec.getLsbD, BitVec.getLsbD, toNat_ofInt64 ha, toNat_ofInt64 hb]
    have := h i
    cases h1 : a.testBit i <;> simp_all
  rw [e]
  rfl
theorem Dom.img_sub {d : Dom} {lo hi : Int} (i : Nat) (h : (d.img lo hi).testBit i = true) : d.all.testBit i = true := by
  unfold Dom.img at h
  unfold Dom.all
  rw [testBit_bits] at *
  simp at *
  exact h.1
theorem Dom.img_ne {d : Dom} (h : d.ok) (hc : ∀ y ∈ d.cuts, y ≤ topU) {lo hi : Int} (h0 : 0 ≤ lo) (h1 : lo ≤ hi) (h2 : hi ≤ topU) : d.img lo hi ≠ 0 := by
  intro e
  have := (d.img_bit h hc (v := d.of lo) h0 (by omega) h2).2 ⟨lo, Int.le_refl _, h1, rfl⟩
  rw [e] at this
  simp at this
/-- The bit of a set, as Go asks for it. -/
theorem shr_and {s v : Nat} (hs : s < 18446744073709551616) (b : Bool) (hb : s.testBit v = b) : (Go.bits .and .u64 ((s : Int) / 2 ^ v) 1 == 1) = b := by
  rw [show (s : Int) / 2 ^ v = ((s / 2 ^ v : Nat) : Int) by simp]
  have h := bits_and_u64 (a := s / 2 ^ v) (b := 1) (Nat.lt_of_le_of_lt (Nat.div_le_self _ _) hs) (by decide)
  rw [show ((1 : Nat) : Int) = 1 from rfl] at h
  rw [h, ← hb, shift_bit, Nat.and_one_is_mod]
  have : s / 2 ^ v % 2 = 0 ∨ s / 2 ^ v % 2 = 1 := by omega
  rcases this with h | h <;> simp [h]
end Go.Lf
