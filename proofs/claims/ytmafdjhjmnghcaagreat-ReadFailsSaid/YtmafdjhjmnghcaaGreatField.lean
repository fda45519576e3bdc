/- Words of states, descriptors, heads: the contracts. -/
import Derived.Test.YtmafdjhjmnghcaaGreatBase
import Derived.Test.YtmafdjhjmnghcaaGreatFieldP
import Derived.Test.YtmafdjhjmnghcaaGreatMem
set_option linter.unusedVariables false
set_option linter.unusedSimpArgs false
namespace Go.Proofs.YtmafdjhjmnghcaaGreat
open Go.RowKit Go.Lf
section
variable {w : World}
theorem f_tmod8 {x : Int} (h0 : 0 ≤ x) : IntKind.u8.wrap (x.tmod 8) = x % 8 := by rw [Int.tmod_eq_emod_of_nonneg h0, IntKind.wrap_u8]; omega
set_option maxHeartbeats 2000000 in
theorem fkind_ok (x : Int) (h0 : 0 ≤ x) (h1 : x < 18446744073709551616) : Calls Tryz.prog 91 #[.int .u64 x] w fun e w' => e = .returned (.int .u8 (fKind x)) ∧ w = w' := by
  have e1 : IntKind.u8.wrap (x.tmod 8) = fKind x := f_tmod8 h0
  have e2 : IntKind.u8.wrap (x % 8) = fKind x := by rw [IntKind.wrap_u8]; unfold fKind; omega
  go_enter Tryz.func91, Tryz.ntmps91
  go_wp2
  go_ret
  exact ⟨rfl, rfl⟩
set_option maxHeartbeats 2000000 in
theorem fentry_ok (x : Int) (h0 : 0 ≤ x) (h1 : x < 18446744073709551616) : Calls Tryz.prog 90 #[.int .u64 x] w fun e w' => e = .returned (.int .i64 (fEntry x)) ∧ w = w' := by
  have e1 : IntKind.i64.wrap ((x.tmod 65536).tdiv 8) = fEntry x := by rw [Int.tmod_eq_emod_of_nonneg h0, Int.tdiv_eq_ediv_of_nonneg (by omega), IntKind.wrap_i64]; unfold fEntry; omega
  have e2 : IntKind.i64.wrap (x % 65536 / 8) = fEntry x := by rw [IntKind.wrap_i64]; unfold fEntry; omega
  have e3 : IntKind.i64.wrap ((x % 65536).tdiv 8) = fEntry x := by rw [Int.tdiv_eq_ediv_of_nonneg (by omega)]; exact e2
  go_enter Tryz.func90, Tryz.ntmps90
  go_wp2
  go_ret
  exact ⟨rfl, rfl⟩
set_option maxHeartbeats 2000000 in
theorem fgen_ok (x : Int) (h0 : 0 ≤ x) (h1 : x < 18446744073709551616) : Calls Tryz.prog 153 #[.int .u64 x] w fun e w' => e = .returned (.int .u64 (fGen x)) ∧ w = w' := by
  have e1 : x.tdiv 65536 = fGen x := by rw [Int.tdiv_eq_ediv_of_nonneg h0]; rfl
  have e2 : IntKind.u64.wrap (fGen x) = fGen x := by have := fGen_rng h0 h1; rw [IntKind.wrap_u64]; omega
  go_enter Tryz.func153, Tryz.ntmps153
  go_wp2
  go_ret
  exact ⟨rfl, rfl⟩
/-- The group of a kind. -/
def fGroup (k : Int) : Int := if k = 0 ∨ k = 1 ∨ k = 2 then 1 else if k = 3 ∨ k = 4 ∨ k = 5 then 2 else 0
set_option maxHeartbeats 4000000 in
theorem fgroup_ok (k : Int) (h0 : 0 ≤ k) (h1 : k < 256) : Calls Tryz.prog 187 #[.int .u8 k] w fun e w' => e = .returned (.int .i64 (fGroup k)) ∧ w = w' := by
  by_cases hk : k < 6
  · have : k = 0 ∨ k = 1 ∨ k = 2 ∨ k = 3 ∨ k = 4 ∨ k = 5 := by omega
    rcases this with rfl | rfl | rfl | rfl | rfl | rfl
    all_goals
      clear h0 h1 hk
      go_enter Tryz.func187, Tryz.ntmps187
      go_wp2
      go_ret
      exact ⟨rfl, rfl⟩
  · have d0 : (k == 0) = false := beq_eq_false_iff_ne.2 (by omega)
    have d1 : (k == 1) = false := beq_eq_false_iff_ne.2 (by omega)
    have d2 : (k == 2) = false := beq_eq_false_iff_ne.2 (by omega)
    have d3 : (k == 3) = false := beq_eq_false_iff_ne.2 (by omega)
    have d4 : (k == 4) = false := beq_eq_false_iff_ne.2 (by omega)
    have d5 : (k == 5) = false := beq_eq_false_iff_ne.2 (by omega)
    have hr : fGroup k = 0 := by unfold fGroup; rw [if_neg (by omega), if_neg (by omega)]
    rw [hr]
    clear hr h0 h1 hk
    go_enter Tryz.func187, Tryz.ntmps187
    go_wp2
    go_ret
    exact ⟨rfl, rfl⟩
set_option maxHeartbeats 4000000 in
theorem fvalid_ok (k e g : Int) (h0 : 0 ≤ k) (h1 : k < 256) (g0 : 0 ≤ g) (v : Bool) (hv : fValid k e g = v) : Calls Tryz.prog 150 #[.int .u8 k, .int .i64 e, .int .u64 g] w fun e w' => e = .returned (.bool v) ∧ w = w' := by
  by_cases k1 : k = 0 ∨ k = 1 ∨ k = 2
  · have hg : fGroup k = 1 := by unfold fGroup; rw [if_pos k1]
    unfold fValid at hv
    rw [if_pos k1] at hv
    by_cases he : e = 0
    · subst he
      have dg : (g == 0) = v := by rw [← hv]; rw [Bool.eq_iff_iff]; simp
      clear hv
      go_enter Tryz.func150, Tryz.ntmps150
      go_wp2_with fail
      refine (fgroup_ok k h0 h1).mono ?_
      rintro e' w' ⟨rfl, rfl⟩
      rw [hg]
      go_wp2
      go_ret
      exact ⟨rfl, rfl⟩
    · have de : (e == 0) = false := beq_eq_false_iff_ne.2 he
      have : v = false := by rw [← hv]; simp [he]
      subst this
      clear hv he
      go_enter Tryz.func150, Tryz.ntmps150
      go_wp2_with fail
      refine (fgroup_ok k h0 h1).mono ?_
      rintro e' w' ⟨rfl, rfl⟩
      rw [hg]
      go_wp2
      go_ret
      exact ⟨rfl, rfl⟩
  · by_cases k2 : k = 3 ∨ k = 4 ∨ k = 5
    · have hg : fGroup k = 2 := by unfold fGroup; rw [if_neg k1, if_pos k2]
      unfold fValid at hv
      rw [if_neg k1, if_pos k2] at hv
      by_cases e0 : 0 ≤ e
      · have d0 : decide (0 ≤ e) = true := decide_eq_true e0
        have d0' : decide (e < 0) = false := decide_eq_false (by omega)
        by_cases e1 : e < 16
        · have d1 : decide (e < 16) = true := decide_eq_true e1
          have d2 : decide (g ≤ 1099511627775) = v := by rw [← hv]; simp [e0, e1]
          have d2' : (!decide (1099511627775 < g)) = v := by
            rw [← d2, Bool.eq_iff_iff]; simp
          clear hv k1 k2
          go_enter Tryz.func150, Tryz.ntmps150
          go_wp2_with fail
          refine (fgroup_ok k h0 h1).mono ?_
          rintro e' w' ⟨rfl, rfl⟩
          rw [hg]
          go_wp2
          go_ret
          exact ⟨rfl, rfl⟩
        · have d1 : decide (e < 16) = false := decide_eq_false e1
          have : v = false := by rw [← hv]; simp [e0, e1]
          subst this
          clear hv k1 k2
          go_enter Tryz.func150, Tryz.ntmps150
          go_wp2_with fail
          refine (fgroup_ok k h0 h1).mono ?_
          rintro e' w' ⟨rfl, rfl⟩
          rw [hg]
          go_wp2
          go_ret
          exact ⟨rfl, rfl⟩
      · have d0 : decide (0 ≤ e) = false := decide_eq_false e0
        have d0' : decide (e < 0) = true := decide_eq_true (by omega)
        have : v = false := by rw [← hv]; simp [e0]
        subst this
        clear hv k1 k2
        go_enter Tryz.func150, Tryz.ntmps150
        go_wp2_with fail
        refine (fgroup_ok k h0 h1).mono ?_
        rintro e' w' ⟨rfl, rfl⟩
        rw [hg]
        go_wp2
        go_ret
        exact ⟨rfl, rfl⟩
    · have hg : fGroup k = 0 := by unfold fGroup; rw [if_neg k1, if_neg k2]
      unfold fValid at hv
      rw [if_neg k1, if_neg k2] at hv
      subst hv
      clear k1 k2
      go_enter Tryz.func150, Tryz.ntmps150
      go_wp2_with fail
      refine (fgroup_ok k h0 h1).mono ?_
      rintro e' w' ⟨rfl, rfl⟩
      rw [hg]
      go_wp2
      go_ret
      exact ⟨rfl, rfl⟩
set_option maxHeartbeats 4000000 in
theorem fcheck_yes (x : Int) (h0 : 0 ≤ x) (h1 : x < 18446744073709551616) (hv : fOk x = true) : Calls Tryz.prog 89 #[.int .u64 x] w fun e w' => e = .returned (.int .i64 0) ∧ w = w' := by
  have hk := fKind_rng (w := x)
  have hg := fGen_rng h0 h1
  go_enter Tryz.func89, Tryz.ntmps89
  go_wp2_with fail
  refine (fkind_ok x h0 h1).mono ?_
  rintro e' w' ⟨rfl, rfl⟩
  go_wp2_with fail
  refine (fentry_ok x h0 h1).mono ?_
  rintro e' w' ⟨rfl, rfl⟩
  go_wp2_with fail
  refine (fgen_ok x h0 h1).mono ?_
  rintro e' w' ⟨rfl, rfl⟩
  go_wp2_with fail
  refine (fvalid_ok _ _ _ hk.1 (by omega) hg.1 true hv).mono ?_
  rintro e' w' ⟨rfl, rfl⟩
  go_wp2
  go_ret
  exact ⟨rfl, rfl⟩
set_option maxHeartbeats 4000000 in
theorem fcheck_no (x : Int) (h0 : 0 ≤ x) (h1 : x < 18446744073709551616) (hv : fOk x = false) : Calls Tryz.prog 89 #[.int .u64 x] w fun e w' => e = .returned (.int .i64 4) ∧ w = w' := by
  have hk := fKind_rng (w := x)
  have hg := fGen_rng h0 h1
  go_enter Tryz.func89, Tryz.ntmps89
  go_wp2_with fail
  refine (fkind_ok x h0 h1).mono ?_
  rintro e' w' ⟨rfl, rfl⟩
  go_wp2_with fail
  refine (fentry_ok x h0 h1).mono ?_
  rintro e' w' ⟨rfl, rfl⟩
  go_wp2_with fail
  refine (fgen_ok x h0 h1).mono ?_
  rintro e' w' ⟨rfl, rfl⟩
  go_wp2_with fail
  refine (fvalid_ok _ _ _ hk.1 (by omega) hg.1 false hv).mono ?_
  rintro e' w' ⟨rfl, rfl⟩
  go_wp2
  go_ret
  exact ⟨rfl, rfl⟩
end
end Go.Proofs.YtmafdjhjmnghcaaGreat
