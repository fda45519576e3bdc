/- full: what is refused: contracts. -/
import Derived.Test.YtckopbjejjeknaaFullOps3
namespace Go.Proofs.Ytckopbjejjeknaa
open Go.RowKit Go.Lf
section
variable {w : World} {g nb bb mb : Nat} {F : Nat → Prop} {base : Int} {nums : List Int} {beg : List Bool} {ws : List Int} {log : List Acc} {t s v x : Int}
set_option maxHeartbeats 1000000 in
theorem fenter_slot {p : Value} {e0 : Int} (hs : Calls Try.prog 67 #[p, .int .i64 t, .int .i64 s] w fun e w' => e = .returned (.int .i64 e0) ∧ w = w') (h0 : e0 ≠ 0) :
    Calls Try.prog 40 #[p, .int .i64 t, .int .i64 s, .int .i64 v] w fun e w' => e = .returned (.tuple #[.pointer none, .int .i64 e0]) ∧ w = w' := by
  have HS := hid hs
  have d1 : (e0 != 0) = true := bne_iff_ne.2 h0
  clear hs h0
  go_enter Try.func40, Try.ntmps40
  go_wp2_with fail
  refine HS.out.mono ?_
  rintro e w' ⟨rfl, rfl⟩
  go_wp2
  go_ret2
  exact ⟨rfl, rfl⟩
set_option maxHeartbeats 1000000 in
theorem fenter_value (h : EngAt w g nb bb mb base nums beg) (t0 : 0 ≤ t) (t1 : t < 64) (s0 : 0 ≤ s) (s1 : s < (nums.length : Int)) (hv : v < 0 ∨ 64 ≤ v) :
    Calls Try.prog 40 #[.pointer (some ⟨g, 0, none⟩), .int .i64 t, .int .i64 s, .int .i64 v] w fun e w' => e = .returned (.tuple #[.pointer none, .int .i64 2]) ∧ w = w' := by
  have HS := hid (fslot_ok h t s t0 t1 s0 s1)
  clear h
  by_cases h1 : v < 0
  · have d1 : decide (v < 0) = true := decide_eq_true h1
    clear hv h1
    go_enter Try.func40, Try.ntmps40
    go_wp2_with fail
    refine HS.out.mono ?_
    rintro e w' ⟨rfl, rfl⟩
    go_wp2
    go_ret2
    exact ⟨rfl, rfl⟩
  · have d1 : decide (v < 0) = false := decide_eq_false h1
    have d2 : decide (64 ≤ v) = true := decide_eq_true (by omega)
    clear hv h1
    go_enter Try.func40, Try.ntmps40
    go_wp2_with fail
    refine HS.out.mono ?_
    rintro e w' ⟨rfl, rfl⟩
    go_wp2
    go_ret2
    exact ⟨rfl, rfl⟩
set_option maxRecDepth 100000 in
set_option maxHeartbeats 1000000 in
theorem fenter_busy {i : Nat} {b : Bool} (h : EngAt w g nb bb mb base nums beg) (t0 : 0 ≤ t) (t1 : t < 64) (v0 : 0 ≤ v) (v1 : v < 64) (hx : nums[i]? = some x) (x0 : 0 ≤ x) (hb : beg[i]? = some b) (hbusy : b = true ∨ x % 2 = 1) :
    Calls Try.prog 40 #[.pointer (some ⟨g, 0, none⟩), .int .i64 t, .int .i64 i, .int .i64 v] w fun e w' => e = .returned (.tuple #[.pointer none, .int .i64 8]) ∧ w = w' := by
  obtain ⟨c0, c1, c2, c3⟩ := h.cells
  have cb := h.begun hb
  have l0 := lt_of_at hx
  have HS := hid (fslot_ok h t i t0 t1 (by omega) (by omega))
  have d1 : decide (v < 0) = false := decide_eq_false (by omega)
  have d2 : decide (64 ≤ v) = false := decide_eq_false (by omega)
  cases b with
  | true =>
    clear h hx hb c0 c1 c2 hbusy
    go_enter Try.func40, Try.ntmps40
    go_wp2_with fail
    refine HS.out.mono ?_
    rintro e w' ⟨rfl, rfl⟩
    go_wp2
    go_ret2
    exact ⟨rfl, rfl⟩
  | false =>
    have hodd : x % 2 = 1 := by rcases hbusy with h | h; cases h; exact h
    have HI := hid (finside_any h i x hx x0 true (by rw [hodd]; rfl))
    clear h hx hb c0 c1 c2 hbusy hodd
    go_enter Try.func40, Try.ntmps40
    go_wp2_with fail
    refine HS.out.mono ?_
    rintro e w' ⟨rfl, rfl⟩
    go_wp2_with fail
    refine HI.out.mono ?_
    rintro e w' ⟨rfl, rfl⟩
    go_wp2
    go_ret2
    exact ⟨rfl, rfl⟩
set_option maxHeartbeats 1000000 in
theorem fexit_slot {p : Value} {e0 : Int} (hs : Calls Try.prog 67 #[p, .int .i64 t, .int .i64 s] w fun e w' => e = .returned (.int .i64 e0) ∧ w = w') (h0 : e0 ≠ 0) :
    Calls Try.prog 42 #[p, .int .i64 t, .int .i64 s] w fun e w' => e = .returned (.tuple #[.int .u8 0, .int .i64 e0]) ∧ w = w' := by
  have HS := hid hs
  have d1 : (e0 != 0) = true := bne_iff_ne.2 h0
  clear hs h0
  go_enter Try.func42, Try.ntmps42
  go_wp2_with fail
  refine HS.out.mono ?_
  rintro e w' ⟨rfl, rfl⟩
  go_wp2
  go_ret2
  exact ⟨rfl, rfl⟩
set_option maxHeartbeats 1000000 in
theorem fexit_state {i : Nat} (h : EngAt w g nb bb mb base nums beg) (t0 : 0 ≤ t) (t1 : t < 64) (hx : nums[i]? = some x) (x0 : 0 ≤ x) (hev : x % 2 = 0) :
    Calls Try.prog 42 #[.pointer (some ⟨g, 0, none⟩), .int .i64 t, .int .i64 i] w fun e w' => e = .returned (.tuple #[.int .u8 0, .int .i64 8]) ∧ w = w' := by
  have l0 := lt_of_at hx
  have HS := hid (fslot_ok h t i t0 t1 (by omega) (by omega))
  have HI := hid (finside_any h i x hx x0 false (by rw [hev]; rfl))
  clear h hx hev
  go_enter Try.func42, Try.ntmps42
  go_wp2_with fail
  refine HS.out.mono ?_
  rintro e w' ⟨rfl, rfl⟩
  go_wp2_with fail
  refine HI.out.mono ?_
  rintro e w' ⟨rfl, rfl⟩
  go_wp2
  go_ret2
  exact ⟨rfl, rfl⟩
set_option maxHeartbeats 1000000 in
theorem fwait_thread {p : Value} {e0 : Int} (hs : Calls Try.prog 70 #[p, .int .i64 t] w fun e w' => e = .returned (.int .i64 e0) ∧ w = w') (h0 : e0 ≠ 0) :
    Calls Try.prog 44 #[p, .int .i64 t, .int .u64 x] w fun e w' => e = .returned (.tuple #[.pointer none, .int .i64 e0]) ∧ w = w' := by
  have HS := hid hs
  have d1 : (e0 != 0) = true := bne_iff_ne.2 h0
  clear hs h0
  go_enter Try.func44, Try.ntmps44
  go_wp2_with fail
  refine HS.out.mono ?_
  rintro e w' ⟨rfl, rfl⟩
  go_wp2
  go_ret2
  exact ⟨rfl, rfl⟩
set_option maxHeartbeats 1000000 in
theorem fwait_zero (g : Nat) (t0 : 0 ≤ t) (t1 : t < 64) : Calls Try.prog 44 #[.pointer (some ⟨g, 0, none⟩), .int .i64 t, .int .u64 0] w fun e w' => e = .returned (.tuple #[.pointer none, .int .i64 2]) ∧ w = w' := by
  have HT := hid (@fthread_ok w g t t0 t1)
  go_enter Try.func44, Try.ntmps44
  go_wp2_with fail
  refine HT.out.mono ?_
  rintro e w' ⟨rfl, rfl⟩
  go_wp2
  go_ret2
  exact ⟨rfl, rfl⟩
end
end Go.Proofs.Ytckopbjejjeknaa
