
/- leapfrogref03: In, Members, Bucket, Buckets; domain.Bucket: contracts. -/
import Derived.Test.YtldjlcdccnnogaaGreatDomRef
import Derived.Test.YtldjlcdccnnogaaGreatBktPlain
import Derived.Test.YtldjlcdccnnogaaGreatMembers
import Derived.BigQuiet
set_option linter.unusedVariables false
set_option linter.unusedSimpArgs false
namespace Go.Lf
theorem and_bit {v s : Nat} (hv : v < 64) (hs : s < 18446744073709551616) : (Go.bits .and .u64 (s : Int) ((2 ^ v : Nat) : Int) != 0) = s.testBit v := by
  rw [bits_and_u64 hs (pow_lt64 hv)]
  cases h : s.testBit v with
  | true =>
    have h1 : (s &&& 2 ^ v).testBit v = true := by rw [Nat.testBit_and, Nat.testBit_two_pow_self, h]; rfl
    have h2 : s &&& 2 ^ v ≠ 0 := fun e => by rw [e] at h1; simp at h1
    exact bne_iff_ne.2 (by omega)
  | false =>
    have h2 : s &&& 2 ^ v = 0 := by
      apply Nat.eq_of_testBit_eq
      intro i
      rw [Nat.testBit_and, Nat.testBit_two_pow, Nat.zero_testBit]
      by_cases e : v = i
      · subst e; rw [h, Bool.false_and]
      · rw [decide_eq_false e, Bool.and_false]
    rw [h2]
    rfl
end Go.Lf
namespace Go.Proofs.YtldjlcdccnnogaaGreat
open Go.RowKit Go.Lf
section
variable {w : World}
/-! Bucket. -/
/-- The error of Bucket. -/
def bktErr (v n : Int) : Int := if n < 1 ∨ 16 < n then 2 else if v < 0 ∨ 64 ≤ v then 3 else 0
set_option maxHeartbeats 400000 in
theorem some_ok (n : Nat) (h1 : 1 ≤ n) (h2 : n ≤ 16) : Calls Tryz.prog 81 #[.int .i64 n] w fun e w' => e = .returned (.int .i64 0) ∧ w = w' := by
  have d1 : decide ((n : Int) < 1) = false := decide_eq_false (by omega)
  have d2 : decide (16 < (n : Int)) = false := decide_eq_false (by omega)
  go_enter Tryz.func81, Tryz.ntmps81
  go_wp2
  go_ret
  exact ⟨rfl, rfl⟩
set_option maxHeartbeats 400000 in
theorem some_no (n : Int) (h : n < 1 ∨ 16 < n) : Calls Tryz.prog 81 #[.int .i64 n] w fun e w' => e = .returned (.int .i64 2) ∧ w = w' := by
  by_cases h1 : n < 1
  · have d1 : decide (n < 1) = true := decide_eq_true h1
    clear h1 h
    go_enter Tryz.func81, Tryz.ntmps81
    go_wp2
    go_ret
    exact ⟨rfl, rfl⟩
  · have d1 : decide (n < 1) = false := decide_eq_false h1
    have d2 : decide (16 < n) = true := decide_eq_true (by omega)
    clear h1 h
    go_enter Tryz.func81, Tryz.ntmps81
    go_wp2
    go_ret
    exact ⟨rfl, rfl⟩
set_option maxHeartbeats 400000 in
theorem bucket_ok (v n : Nat) (hv : v < 64) (h1 : 1 ≤ n) (h2 : n ≤ 16) : Calls Tryz.prog 161 #[.int .i64 v, .int .i64 n] w fun e w' => e = .returned (.tuple #[.int .i64 ((v % n : Nat) : Int), .int .i64 0]) ∧ w = w' := by
  have d3 : decide ((v : Int) < 0) = false := decide_eq_false (by omega)
  have d4 : decide (64 ≤ (v : Int)) = false := decide_eq_false (by omega)
  have dn : ((n : Int) == 0) = false := beq_eq_false_iff_ne.2 (by omega)
  have HS := hid (@some_ok w n h1 h2)
  go_enter Tryz.func161, Tryz.ntmps161
  go_wp2_with fail
  refine HS.out.mono ?_
  rintro e w' ⟨rfl, rfl⟩
  go_wp2
  go_ret2
  exact ⟨by simp, rfl⟩
set_option maxHeartbeats 1000000 in
theorem bucket_err (v n : Int) (he : bktErr v n ≠ 0) : Calls Tryz.prog 161 #[.int .i64 v, .int .i64 n] w fun e w' => e = .returned (.tuple #[.int .i64 0, .int .i64 (bktErr v n)]) ∧ w = w' := by
  by_cases h1 : n < 1 ∨ 16 < n
  · rw [show bktErr v n = 2 from if_pos h1]
    have HS := hid (@some_no w n h1)
    clear h1 he
    go_enter Tryz.func161, Tryz.ntmps161
    go_wp2_with fail
    refine HS.out.mono ?_
    rintro e w' ⟨rfl, rfl⟩
    go_wp2
    go_ret2
    exact ⟨rfl, rfl⟩
  have e0 : bktErr v n = if v < 0 ∨ 64 ≤ v then 3 else 0 := if_neg h1
  obtain ⟨m, rfl⟩ : ∃ m : Nat, n = m := ⟨n.toNat, by omega⟩
  have HS := hid (@some_ok w m (by omega) (by omega))
  by_cases h3 : v < 0
  · rw [e0, if_pos (.inl h3)]
    have d3 : decide (v < 0) = true := decide_eq_true h3
    clear h1 h3 he e0
    go_enter Tryz.func161, Tryz.ntmps161
    go_wp2_with fail
    refine HS.out.mono ?_
    rintro e w' ⟨rfl, rfl⟩
    go_wp2
    go_ret2
    exact ⟨rfl, rfl⟩
  have d3 : decide (v < 0) = false := decide_eq_false h3
  by_cases h4 : 64 ≤ v
  · rw [e0, if_pos (.inr h4)]
    have d4 : decide (64 ≤ v) = true := decide_eq_true h4
    clear h1 h3 h4 he e0
    go_enter Tryz.func161, Tryz.ntmps161
    go_wp2_with fail
    refine HS.out.mono ?_
    rintro e w' ⟨rfl, rfl⟩
    go_wp2
    go_ret2
    exact ⟨rfl, rfl⟩
  · exact absurd (e0.trans (if_neg (by omega))) he

/-! The reference's Buckets. -/
def BktsTo (w : World) (l : List Nat) (e : Ending) (w' : World) : Prop := ∃ v, e = .returned (.tuple #[v, .int .i64 0]) ∧ Rd w' 1 v l.length (nums l) ∧ Keep Nil w w' ∧ ∀ k, v.ownBlock = some k → w.heap.size ≤ k
end
end Go.Proofs.YtldjlcdccnnogaaGreat
