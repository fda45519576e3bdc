/- gate: Words and New, beside the reference: contracts of what errs. -/
import Derived.Test.YtjghenomeindcaaGreatFits
import Derived.Test.YtjghenomeindcaaGreatPlErr
import Derived.Test.YtjghenomeindcaaGreatRows1
import Derived.Test.YtjghenomeindcaaGreatFullPlain
namespace Go.Proofs.YtjghenomeindcaaGreat
open Go.RowKit Go.Lf
section
variable {w : World}
set_option maxHeartbeats 400000 in
theorem gwords_no (n : Int) (h : n < 1 ∨ 16 < n) : Calls Tryz.prog 149 #[.int .i64 n] w fun e w' => e = .returned (.tuple #[.int .i64 0, .int .i64 2]) ∧ w = w' := by
  by_cases h1 : n < 1
  · have d1 : decide (n < 1) = true := decide_eq_true h1
    clear h h1
    go_enter Tryz.func149, Tryz.ntmps149
    go_wp2
    go_ret2
    exact ⟨rfl, rfl⟩
  · have d1 : decide (n < 1) = false := decide_eq_false h1
    have d2 : decide (16 < n) = true := decide_eq_true (by omega)
    clear h h1
    go_enter Tryz.func149, Tryz.ntmps149
    go_wp2
    go_ret2
    exact ⟨rfl, rfl⟩
set_option maxHeartbeats 400000 in
theorem gwords_ok (n : Int) (h : 1 ≤ n ∧ n ≤ 16) : Calls Tryz.prog 149 #[.int .i64 n] w fun e w' => e = .returned (.tuple #[.int .i64 (4 * n), .int .i64 0]) ∧ w = w' := by
  have d1 : decide (n < 1) = false := decide_eq_false (by omega)
  have d2 : decide (16 < n) = false := decide_eq_false (by omega)
  obtain ⟨n0, n1⟩ := h
  go_enter Tryz.func149, Tryz.ntmps149
  go_wp2
  go_ret2
  exact ⟨rfl, rfl⟩
set_option maxHeartbeats 400000 in
theorem rgwords_no (n : Int) (h : n < 1 ∨ 16 < n) : Calls Tryz.prog 177 #[.int .i64 n] w fun e w' => e = .returned (.tuple #[.int .i64 0, .int .i64 2]) ∧ w = w' := by
  by_cases h1 : n < 1
  · have d1 : decide (n < 1) = true := decide_eq_true h1
    clear h h1
    go_enter Tryz.func177, Tryz.ntmps177
    go_wp2
    go_ret2
    exact ⟨rfl, rfl⟩
  · have d1 : decide (n < 1) = false := decide_eq_false h1
    have d2 : decide (16 < n) = true := decide_eq_true (by omega)
    clear h h1
    go_enter Tryz.func177, Tryz.ntmps177
    go_wp2
    go_ret2
    exact ⟨rfl, rfl⟩
set_option maxHeartbeats 400000 in
theorem rgwords_ok (n : Int) (h : 1 ≤ n ∧ n ≤ 16) : Calls Tryz.prog 177 #[.int .i64 n] w fun e w' => e = .returned (.tuple #[.int .i64 (4 * n), .int .i64 0]) ∧ w = w' := by
  have d1 : decide (n < 1) = false := decide_eq_false (by omega)
  have d2 : decide (16 < n) = false := decide_eq_false (by omega)
  obtain ⟨n0, n1⟩ := h
  go_enter Tryz.func177, Tryz.ntmps177
  go_wp2
  go_ret2
  exact ⟨rfl, rfl⟩

/-! New. -/
set_option maxHeartbeats 400000 in
theorem gnew_nil (base n : Int) : Calls Tryz.prog 120 #[.pointer none, .int .i64 base, .int .i64 n] w fun e w' => e = .returned (.tuple #[.pointer none, .int .i64 1]) ∧ w = w' := by
  go_enter Tryz.func120, Tryz.ntmps120
  go_wp2
  go_ret2
  exact ⟨rfl, rfl⟩
variable {mb : Nat} {F : Nat → Prop} {ws : List Int} {log : List Acc}
set_option maxHeartbeats 1000000 in
theorem gnew_err (h : MemAt w mb F ws log) (_hl : ws.length ≤ 65536) (base n : Int) (he : pErr 4 16 base n ws.length ≠ 0) :
    Calls Tryz.prog 120 #[.pointer (some ⟨mb, 0, none⟩), .int .i64 base, .int .i64 n] w fun e w' => e = .returned (.tuple #[.pointer none, .int .i64 (pErr 4 16 base n ws.length)]) ∧ w = w' := by
  have H := hid h
  clear h
  by_cases hn : n < 1 ∨ 16 < n
  · rw [pErr_two hn]
    have hw := @gwords_no w n hn
    have HW := hid hw
    clear hw hn he
    go_enter Tryz.func120, Tryz.ntmps120
    go_wp2_with fail
    refine HW.out.mono ?_
    rintro e w' ⟨rfl, rfl⟩
    go_wp2
    go_ret2
    exact ⟨rfl, rfl⟩
  · have h3 : base < 0 ∨ (ws.length : Int) < base + 4 * n := by
      apply Classical.byContradiction
      intro h'
      apply he
      unfold pErr
      rw [if_neg hn, if_neg h']
    rw [pErr_three hn h3]
    have hw := @gwords_ok w n (by omega)
    have HW := hid hw
    by_cases h4 : base < 0
    · have d1 : decide (base < 0) = true := decide_eq_true h4
      clear hw hn he h3 h4
      go_enter Tryz.func120, Tryz.ntmps120
      go_wp2_with fail
      refine HW.out.mono ?_
      rintro e w' ⟨rfl, rfl⟩
      go_wp2
      go_ret2
      exact ⟨rfl, rfl⟩
    have d1 : decide (base < 0) = false := decide_eq_false h4
    by_cases h5 : 65536 < base
    · have d2 : decide (65536 < base) = true := decide_eq_true h5
      clear hw hn he h3 h4 h5
      go_enter Tryz.func120, Tryz.ntmps120
      go_wp2_with fail
      refine HW.out.mono ?_
      rintro e w' ⟨rfl, rfl⟩
      go_wp2
      go_ret2
      exact ⟨rfl, rfl⟩
    have d2 : decide (65536 < base) = false := decide_eq_false h5
    have hp := peek_no H.out (base + 4 * n - 1) (by omega)
    have HP := hid hp
    have n0 : 1 ≤ n := by omega
    have n1 : n ≤ 16 := by omega
    clear hw hn he h3 hp
    go_enter Tryz.func120, Tryz.ntmps120
    go_wp2_with fail
    refine HW.out.mono ?_
    rintro e w' ⟨rfl, rfl⟩
    go_wp2_with fail
    refine HP.out.mono ?_
    rintro e w' ⟨rfl, rfl⟩
    go_wp2
    go_ret2
    exact ⟨rfl, rfl⟩

set_option maxHeartbeats 1000000 in
theorem rgnew_err (h : RefAt w mb F ws log) (hl : ws.length ≤ 65536) (base n : Int) (he : pErr 4 16 base n ws.length ≠ 0) :
    Calls Tryz.prog 168 #[.pointer (some ⟨mb, 0, none⟩), .int .i64 base, .int .i64 n] w fun e w' => e = .returned (.tuple #[.pointer none, .int .i64 (pErr 4 16 base n ws.length)]) ∧ w = w' := by
  have H := hid h
  clear h
  by_cases hn : n < 1 ∨ 16 < n
  · rw [pErr_two hn]
    have hw := @rgwords_no w n hn
    have HW := hid hw
    clear hw hn he hl
    go_enter Tryz.func168, Tryz.ntmps168
    go_wp2_with fail
    refine HW.out.mono ?_
    rintro e w' ⟨rfl, rfl⟩
    go_wp2
    go_ret2
    exact ⟨rfl, rfl⟩
  · have h3 : base < 0 ∨ (ws.length : Int) < base + 4 * n := by
      apply Classical.byContradiction
      intro h'
      apply he
      unfold pErr
      rw [if_neg hn, if_neg h']
    rw [pErr_three hn h3]
    have hw := @rgwords_ok w n (by omega)
    have hf := fits_no H.out base (4 * n) (by omega) (by omega) (by omega) h3
    have HW := hid hw
    have HF := hid hf
    clear hw hn he hl h3 hf
    go_enter Tryz.func168, Tryz.ntmps168
    go_wp2_with fail
    refine HW.out.mono ?_
    rintro e w' ⟨rfl, rfl⟩
    go_wp2_with fail
    refine HF.out.mono ?_
    rintro e w' ⟨rfl, rfl⟩
    go_wp2
    go_ret2
    exact ⟨rfl, rfl⟩

end
end Go.Proofs.YtjghenomeindcaaGreat
