/- gate: covers: contract. -/
import Derived.Test.YtihgfklajhhikaaGateHolds
import Derived.Test.YtihgfklajhhikaaGateProg
set_option linter.unusedVariables false
set_option linter.unusedSimpArgs false
namespace Go.Lf
theorem emod_eq {a b n : Nat} : ((a : Int) % n == (b : Int) % n) = (a % n == b % n) := by
  rw [← Int.natCast_emod, ← Int.natCast_emod, Bool.eq_iff_iff, beq_iff_eq, beq_iff_eq]
  omega
theorem wrap_tmod {a n : Nat} (ha : a < 1000) : IntKind.i64.wrap ((a : Int).tmod n) = (a : Int).tmod n := by
  have := Nat.mod_le a n
  rw [Int.tmod_eq_emod_of_nonneg (Int.natCast_nonneg _), ← Int.natCast_emod, IntKind.wrap_i64]
  omega
end Go.Lf
namespace Go.Proofs.Ytihgfklajhhikaa
open Go.RowKit Go.Lf
section
variable {w : World}
set_option maxHeartbeats 4000000 in
theorem covers_ok (s n o : Nat) (n0 : 1 ≤ n) (n1 : n ≤ 16) (o64 : o < 64) :
    Calls Try.prog 51 #[.int .u64 s, .int .i64 n, .int .i64 o] w fun e w' => e = .returned (.bool (inB s n (o % n))) ∧ Keep Nil w w' := by
  have d0 : ((n : Int) == 0) = false := beq_eq_false_iff_ne.2 (by omega)
  have eo : IntKind.i64.wrap ((o : Int).tmod n) = (o : Int).tmod n := wrap_tmod (by omega)
  go_enter Try.func51, Try.ntmps51
  go_wp2
  go_loopw [7] (fun i wr => ∃ k : Nat, k ≤ 64 ∧ i = .int .i64 k ∧ Hid (Keep Nil w wr) ∧ Hid (∀ v, v < k → ¬ (s.testBit v = true ∧ v % n = o % n))) (fun i _ => 64 - (intOf i).toNat)
  case atStart => exact ⟨0, by omega, rfl, hid (Keep.refl _ _), hid (fun v hv => by omega)⟩
  case round =>
    obtain ⟨k, hk, rfl, HK, HV⟩ := hrel
    by_cases hlt : k < 64
    · have hwk : IntKind.u64.wrap (k : Int) = k := by rw [IntKind.wrap_u64]; omega
      have ek : IntKind.i64.wrap ((k : Int).tmod n) = (k : Int).tmod n := wrap_tmod (by omega)
      have HE := hid (@emod_eq k o n)
      obtain ⟨b, hb⟩ : ∃ b, s.testBit k = b := ⟨_, rfl⟩
      obtain ⟨c, hc⟩ : ∃ c, (k % n == o % n) = c := ⟨_, rfl⟩
      have dd := shr_mod' s k b hb
      have de : ((k : Int) % n == (o : Int) % n) = c := HE.out.trans hc
      have HB := hid hb
      have HC := hid hc
      clear hb hc
      cases b with
      | true =>
        cases c with
        | true =>
          have HR := hid (show inB s n (o % n) = true from inB_iff.2 ⟨k, hlt, beq_iff_eq.1 HC.out, HB.out⟩)
          go_wp2
          go_quiet (fail)
          go_wp2
          go_ret
          exact ⟨by rw [HR.out]; rfl, HK.out.drewN _⟩
        | false =>
          have HN := hid (show ∀ v, v < k + 1 → ¬ (s.testBit v = true ∧ v % n = o % n) from fun v hv h => by
            by_cases e : v = k
            · subst e; exact beq_eq_false_iff_ne.1 HC.out h.2
            · exact HV.out v (by omega) h)
          go_wp2
          go_quiet (fail)
          go_wp2
          go_roundw
          case rel => exact ⟨k + 1, by omega, by go_num, hid (HK.out.drewN _), HN⟩
          case measure => simp [intOf]; omega
      | false =>
        have HN := hid (show ∀ v, v < k + 1 → ¬ (s.testBit v = true ∧ v % n = o % n) from fun v hv h => by
          by_cases e : v = k
          · subst e; rw [HB.out] at h; cases h.1
          · exact HV.out v (by omega) h)
        go_wp2
        go_quiet (fail)
        go_wp2
        go_roundw
        case rel => exact ⟨k + 1, by omega, by go_num, hid (HK.out.drewN _), HN⟩
        case measure => simp [intOf]; omega
    · obtain rfl : k = 64 := by omega
      have HR := hid (show inB s n (o % n) = false from by
        cases h : inB s n (o % n) with
        | false => rfl
        | true =>
          obtain ⟨v, h1, h2, h3⟩ := inB_iff.1 h
          exact absurd ⟨h3, h2⟩ (HV.out v h1))
      go_wp2
      go_ret
      exact ⟨by rw [HR.out]; rfl, HK.out⟩
end
end Go.Proofs.Ytihgfklajhhikaa
