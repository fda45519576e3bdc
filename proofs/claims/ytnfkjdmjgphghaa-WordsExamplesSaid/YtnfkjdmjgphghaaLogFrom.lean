/- Log from any index on, of the program's memory and of the reference's. -/
import Derived.Test.YtnfkjdmjgphghaaLogRd
import Derived.Test.YtnfkjdmjgphghaaRefNew
namespace Go.Lf
open Go.RowKit
/-- The accesses from an index on. -/
def logFrom (log : List Acc) (i : Int) : List Acc := if 0 ≤ i then log.drop i.toNat else []
theorem logFrom_neg {log : List Acc} {i : Int} (h : i < 0) : logFrom log i = [] := by unfold logFrom; rw [if_neg (by omega)]
theorem logFrom_big {log : List Acc} {i : Int} (h : (log.length : Int) ≤ i) : logFrom log i = [] := by
  unfold logFrom
  rw [if_pos (by omega)]
  exact List.drop_eq_nil_of_le (by omega)
theorem logFrom_in {log : List Acc} {i : Int} (h : 0 ≤ i) : logFrom log i = log.drop i.toNat := by unfold logFrom; rw [if_pos h]
end Go.Lf
namespace Go.Proofs.Ytnfkjdmjgphghaa
open Go.RowKit Go.Lf

/-- A slice is returned that reads as these accesses; nothing that was there has turned. -/
def AccTo (w : World) (l : List Acc) (e : Ending) (w' : World) : Prop :=
  ∃ v, e = .returned v ∧ Rd w' 6 v l.length (logCells l) ∧ Keep Nil w w'

theorem log_from {b : Nat} {F : Nat → Prop} {ws : List Int} {log : List Acc} {w : World} (h : MemAt w b F ws log) (i : Int) (hn : log.length < 1000000000000) :
    Calls Try.prog 25 #[.pointer (some ⟨b, 0, none⟩), .int .i64 i] w (AccTo w (logFrom log i)) := by
  by_cases hi : i < 0 ∨ (log.length : Int) ≤ i
  · refine (log_none h i hi).mono ?_
    rintro e w' ⟨rfl, rfl⟩
    have e0 : logFrom log i = [] := hi.elim logFrom_neg logFrom_big
    rw [e0]
    exact ⟨_, rfl, ⟨none, 0, rfl, rfl, .inl ⟨rfl, rfl, rfl⟩⟩, Keep.refl _ _⟩
  · refine (log_ok h i (by omega) (by omega) hn).mono ?_
    rintro e w' ⟨g, rfl, hg, hz, hk⟩
    rw [logFrom_in (by omega)]
    refine ⟨_, rfl, ?_, hk⟩
    have := rd_of_heap (size := 6) (n := (log.drop i.toNat).length) hg (length_logCells _)
    rwa [List.length_drop] at this ⊢

set_option maxHeartbeats 1000000 in
theorem rlog_from {b : Nat} {F : Nat → Prop} {ws : List Int} {log : List Acc} {w : World} (h : RefAt w b F ws log) (i : Int) (hn : log.length < 1000000000000) :
    Calls Try.prog 28 #[.pointer (some ⟨b, 0, none⟩), .int .i64 i] w (AccTo w (logFrom log i)) := by
  obtain ⟨la, lc, hc1, hle, hg, hrd⟩ := rlog_cells h
  by_cases hi0 : i < 0
  · rw [logFrom_neg hi0]
    have d1 : decide (i < 0) = true := decide_eq_true hi0
    clear hg hrd hi0
    go_enter Try.func28, Try.ntmps28
    go_wp2
    go_ret
    exact ⟨_, rfl, ⟨none, 0, rfl, rfl, .inl ⟨rfl, rfl, rfl⟩⟩, Keep.refl _ _⟩
  by_cases hi1 : (log.length : Int) < i
  · rw [logFrom_big (by omega)]
    have d1 : decide (i < 0) = false := decide_eq_false hi0
    have d2 : decide ((log.length : Int) < i) = true := decide_eq_true hi1
    clear hg hrd hi0 hi1
    go_enter Try.func28, Try.ntmps28
    go_wp2
    go_ret
    exact ⟨_, rfl, ⟨none, 0, rfl, rfl, .inl ⟨rfl, rfl, rfl⟩⟩, Keep.refl _ _⟩
  obtain ⟨k, rfl⟩ := Int.eq_ofNat_of_zero_le (show 0 ≤ i by omega)
  rw [logFrom_in (by omega), Int.toNat_natCast]
  have hk : k ≤ log.length := by omega
  have d1 : decide ((k : Int) < 0) = false := decide_eq_false hi0
  have d2 : decide (log.length < k) = false := decide_eq_false (by omega)
  have ln : (log.drop k).length = log.length - k := List.length_drop
  by_cases hz : log.length = 0
  · obtain rfl : log = [] := List.eq_nil_of_length_eq_zero hz
    obtain rfl : k = 0 := by simpa using hk
    have HR := hid hrd
    clear hg hi0 hi1 hrd hz ln hk
    go_enter Try.func28, Try.ntmps28
    go_wp2
    go_ret
    exact ⟨_, rfl, HR.out, Keep.refl _ _⟩
  · obtain ⟨g, rfl, hcell⟩ := hg (by omega)
    have HC := hid hcell
    have LN := hid ln
    clear hg hrd hi0 hi1 hcell ln
    by_cases hkc : lc = k
    · have HKC := hid hkc
      have e1 : log.length - k = 0 := by omega
      have E1 := hid e1
      have hcb : (lc = k) := hkc
      clear hkc e1
      go_enter Try.func28, Try.ntmps28
      go_wp2
      go_ret
      refine ⟨_, rfl, ?_, Keep.refl _ _⟩
      have e2 : log.drop k = [] := List.drop_eq_nil_of_le (by have := E1.out; omega)
      rw [e2]
      exact ⟨_, _, by rw [E1.out]; rfl, rfl, .inr <| .inr ⟨⟨_, rfl⟩, rfl⟩⟩
    · go_enter Try.func28, Try.ntmps28
      go_wp2
      go_ret
      refine ⟨_, rfl, ?_, Keep.refl _ _⟩
      rw [LN.out]
      exact ⟨_, _, rfl, by rw [length_logCells, LN.out], .inr <| .inl ⟨g, k * 6, rfl, fun j u hu => HC.out _ _ (logCells_drop hu)⟩⟩
end Go.Proofs.Ytnfkjdmjgphghaa
