/- Words of states, descriptors, heads: the contracts. -/
import Derived.Test.YtmafdjhjmnghcaaGreatBase
import Derived.Test.YtmafdjhjmnghcaaGreatFieldP
import Derived.Test.YtmafdjhjmnghcaaGreatMem
set_option linter.unusedVariables false
set_option linter.unusedSimpArgs false
namespace Go.Proofs.YtmafdjhjmnghcaaGreat
open Go.RowKit Go.Lf
section
variable {w : World}
theorem f_tmod8 {x : Int} (h0 : 0 ≤ x) : IntKind.u8.wrap (x.tmod 8) = x % 8 := by rw [Int.tmod_eq_emod_of_nonneg h0, IntKind.wrap_u8]; omega
set_option maxHeartbeats 2000000 in
theorem fkind_ok (x : Int) (h0 : 0 ≤ x) (h1 : x < 18446744073709551616) : Calls Tryz.prog 91 #[.int .u64 x] w fun e w' => e = .returned (.int .u8 (fKind x)) ∧ w = w' := by
  have e1 : IntKind.u8.wrap (x.tmod 8) = fKind x := f_tmod8 h0
  have e2 : IntKind.u8.wrap (x % 8) = fKind x := by rw [IntKind.wrap_u8]; unfold fKind; omega
  go_enter Tryz.func91, Tryz.ntmps91
  go_wp2
  go_ret
  exact ⟨rfl, rfl⟩
set_option maxHeartbeats 2000000 in
theorem fentry_ok (x : Int) (h0 : 0 ≤ x) (h1 : x < 18446744073709551616) : Calls Tryz.prog 90 #[.int .u64 x] w fun e w' => e = .returned (.int .i64 (fEntry x)) ∧ w = w' := by
  have e1 : IntKind.i64.wrap ((x.tmod 65536).tdiv 8) = fEntry x := by rw [Int.tmod_eq_emod_of_nonneg h0, Int.tdiv_eq_ediv_of_nonneg (by omega), IntKind.wrap_i64]; unfold fEntry; omega
  have e2 : IntKind.i64.wrap (x % 65536 / 8) = fEntry x := by rw [IntKind.wrap_i64]; unfold fEntry; omega
  have e3 : IntKind.i64.wrap ((x % 65536).tdiv 8) = fEntry x := by rw [Int.tdiv_eq_ediv_of_nonneg (by omega)]; exact e2
  go_enter Tryz.func90, Tryz.ntmps90
  go_wp2
  go_ret
  exact ⟨rfl, rfl⟩
set_option maxHeartbeats 2000000 in
theorem fgen_ok (x : Int) (h0 : 0 ≤ x) (h1 : x < 18446744073709551616) : Calls Tryz.prog 153 #[.int .u64 x] w fun e w' => e = .returned (.int .u64 (fGen x)) ∧ w = w' := by
  have e1 : x.tdiv 65536 = fGen x := by rw [Int.tdiv_eq_ediv_of_nonneg h0]; rfl
  have e2 : IntKind.u64.wrap (fGen x) = fGen x := by have := fGen_rng h0 h1; rw [IntKind.wrap_u64]; omega
  go_enter Tryz.func153, Tryz.ntmps153
  go_wp2
  go_ret
  exact ⟨rfl, rfl⟩
/-- The group of a kind. -/
def fGroup (k : Int) : Int := if k = 0 ∨ k = 1 ∨ k = 2 then 1 else if k = 3 ∨ k = 4 ∨ k = 5 then 2 else 0
set_option maxHeartbeats 4000000 in
theorem fgroup_ok (k : Int) (h0 : 0 ≤ k) (h1 : k < 256) : Calls Tryz.prog 187 #[.int .u8 k] w fun e w' => e = .returned (.int .i64 (fGroup k)) ∧ w = w' := by
  by_cases hk : k < 6
  · have : k = 0 ∨ k = 1 ∨ k = 2 ∨ k = 3 ∨ k = 4 ∨ k = 5 := by omega
    rcases this with rfl | rfl | rfl | rfl | rfl | rfl
    all_goals
      clear h0 h1 hk
      go_enter Tryz.func187, Tryz.ntmps187
      go_wp2
      go_ret
      exact ⟨rfl, rfl⟩
  · have d0 : (k == 0) = false := beq_eq_false_iff_ne.2 (by omega)
    have d1 : (k == 1) = false := beq_eq_false_iff_ne.2 (by omega)
    have d2 : (k == 2) = false := beq_eq_false_iff_ne.2 (by omega)
    have d3 : (k == 3) = false := beq_eq_false_iff_ne.2 (by omega)
    have d4 : (k == 4) = false := beq_eq_false_iff_ne.2 (by omega)
    have d5 : (k == 5) = false := beq_eq_false_iff_ne.2 (by omega)
    have hr : fGroup k = 0 := by unfold fGroup; rw [if_neg (by omega), if_neg (by omega)]
    rw [hr]
    clear hr h0 h1 hk
    go_enter Tryz.func187, Tryz.ntmps187
    go_wp2
    go_ret
    exact ⟨rfl, rfl⟩
set_option maxHeartbeats 4000000 in
theorem fvalid_ok (k e g : Int) (h0 : 0 ≤ k) (h1 : k < 256) (g0 : 0 ≤ g) (v : Bool) (hv : fValid k e g = v) : Calls Tryz.prog 150 #[.int .u8 k, .int .i64 e, .int .u64 g] w fun e w' => e = .returned (.bool v) ∧ w = w' := by
  by_cases k1 : k = 0 ∨ k = 1 ∨ k = 2
  · have hg : fGroup k = 1 := by unfold fGroup; rw [if_pos k1]
    unfold fValid at hv
    rw [if_pos k1] at hv
    by_cases he : e = 0
    · subst he
      have dg : (g == 0) = v := by rw [← hv]; rw [Bool.eq_iff_iff]; simp
      clear hv
      go_enter Tryz.func150, Tryz.ntmps150
      go_wp2_with fail
      refine (fgroup_ok k h0 h1).mono ?_
      rintro e' w' ⟨rfl, rfl⟩
      rw [hg]
      go_wp2
      go_ret
      exact ⟨rfl, rfl⟩
    · have de : (e == 0) = false := beq_eq_false_iff_ne.2 he
      have : v = false := by rw [← hv]; simp [he]
      subst this
      clear hv he
      go_enter Tryz.func150, Tryz.ntmps150
      go_wp2_with fail
      refine (fgroup_ok k h0 h1).mono ?_
      rintro e' w' ⟨rfl, rfl⟩
      rw [hg]
      go_wp2
      go_ret
      exact ⟨rfl, rfl⟩
  · by_cases k2 : k = 3 ∨ k = 4 ∨ k = 5
    · have hg : fGroup k = 2 := by unfold fGroup; rw [if_neg k1, if_pos k2]
      unfold fValid at hv
      rw [if_neg k1, if_pos k2] at hv
      by_cases e0 : 0 ≤ e
      · have d0 : decide (0 ≤ e) = true := decide_eq_true e0
        have d0' : decide (e < 0) = false := decide_eq_false (by omega)
        by_cases e1 : e < 16
        · have d1 : decide (e < 16) = true := decide_eq_true e1
          have d2 : decide (g ≤ 1099511627775) = v := by rw [← hv]; simp [e0, e1]
          have d2' : (!decide (1099511627775 < g)) = v := by
            rw [← d2, Bool.eq_iff_iff]; simp
          clear hv k1 k2
          go_enter Tryz.func150, Tryz.ntmps150
          go_wp2_with fail
          refine (fgroup_ok k h0 h1).mono ?_
          rintro e' w' ⟨rfl, rfl⟩
          rw [hg]
          go_wp2
          go_ret
          exact ⟨rfl, rfl⟩
        · have d1 : decide (e < 16) = false := decide_eq_false e1
          have : v = false := by rw [← hv]; simp [e0, e1]
          subst this
          clear hv k1 k2
          go_enter Tryz.func150, Tryz.ntmps150
          go_wp2_with fail
          refine (fgroup_ok k h0 h1).mono ?_
          rintro e' w' ⟨rfl, rfl⟩
          rw [hg]
          go_wp2
          go_ret
          exact ⟨rfl, rfl⟩
      · have d0 : decide (0 ≤ e) = false := decide_eq_false e0
        have d0' : decide (e < 0) = true := decide_eq_true (by omega)
        have : v = false := by rw [← hv]; simp [e0]
        subst this
        clear hv k1 k2
        go_enter Tryz.func150, Tryz.ntmps150
        go_wp2_with fail
        refine (fgroup_ok k h0 h1).mono ?_
        rintro e' w' ⟨rfl, rfl⟩
        rw [hg]
        go_wp2
        go_ret
        exact ⟨rfl, rfl⟩
    · have hg : fGroup k = 0 := by unfold fGroup; rw [if_neg k1, if_neg k2]
      unfold fValid at hv
      rw [if_neg k1, if_neg k2] at hv
      subst hv
      clear k1 k2
      go_enter Tryz.func150, Tryz.ntmps150
      go_wp2_with fail
      refine (fgroup_ok k h0 h1).mono ?_
      rintro e' w' ⟨rfl, rfl⟩
      rw [hg]
      go_wp2
      go_ret
      exact ⟨rfl, rfl⟩
set_option maxHeartbeats 4000000 in
theorem fcheck_yes (x : Int) (h0 : 0 ≤ x) (h1 : x < 18446744073709551616) (hv : fOk x = true) : Calls Tryz.prog 89 #[.int .u64 x] w fun e w' => e = .returned (.int .i64 0) ∧ w = w' := by
  have hk := fKind_rng (w := x)
  have hg := fGen_rng h0 h1
  go_enter Tryz.func89, Tryz.ntmps89
  go_wp2_with fail
  refine (fkind_ok x h0 h1).mono ?_
  rintro e' w' ⟨rfl, rfl⟩
  go_wp2_with fail
  refine (fentry_ok x h0 h1).mono ?_
  rintro e' w' ⟨rfl, rfl⟩
  go_wp2_with fail
  refine (fgen_ok x h0 h1).mono ?_
  rintro e' w' ⟨rfl, rfl⟩
  go_wp2_with fail
  refine (fvalid_ok _ _ _ hk.1 (by omega) hg.1 true hv).mono ?_
  rintro e' w' ⟨rfl, rfl⟩
  go_wp2
  go_ret
  exact ⟨rfl, rfl⟩
set_option maxHeartbeats 4000000 in
theorem fcheck_no (x : Int) (h0 : 0 ≤ x) (h1 : x < 18446744073709551616) (hv : fOk x = false) : Calls Tryz.prog 89 #[.int .u64 x] w fun e w' => e = .returned (.int .i64 4) ∧ w = w' := by
  have hk := fKind_rng (w := x)
  have hg := fGen_rng h0 h1
  go_enter Tryz.func89, Tryz.ntmps89
  go_wp2_with fail
  refine (fkind_ok x h0 h1).mono ?_
  rintro e' w' ⟨rfl, rfl⟩
  go_wp2_with fail
  refine (fentry_ok x h0 h1).mono ?_
  rintro e' w' ⟨rfl, rfl⟩
  go_wp2_with fail
  refine (fgen_ok x h0 h1).mono ?_
  rintro e' w' ⟨rfl, rfl⟩
  go_wp2_with fail
  refine (fvalid_ok _ _ _ hk.1 (by omega) hg.1 false hv).mono ?_
  rintro e' w' ⟨rfl, rfl⟩
  go_wp2
  go_ret
  exact ⟨rfl, rfl⟩
end
end Go.Proofs.YtmafdjhjmnghcaaGreat

/-! Decide, State, Desc: the contracts. -/
set_option linter.unusedVariables false
set_option linter.unusedSimpArgs false
namespace Go.Proofs.YtmafdjhjmnghcaaGreat
open Go.RowKit Go.Lf
section
variable {w : World}
set_option maxHeartbeats 2000000 in
theorem fdgen_ok (x : Int) (h0 : 0 ≤ x) (h1 : x < 18446744073709551616) : Calls Tryz.prog 154 #[.int .u64 x] w fun e w' => e = .returned (.int .u64 (x / 2)) ∧ w = w' := by
  have e1 : x.tdiv 2 = x / 2 := Int.tdiv_eq_ediv_of_nonneg h0
  have e2 : IntKind.u64.wrap (x / 2) = x / 2 := by rw [IntKind.wrap_u64]; omega
  go_enter Tryz.func154, Tryz.ntmps154
  go_wp2
  go_ret
  exact ⟨rfl, rfl⟩
set_option maxHeartbeats 2000000 in
theorem fcomm_ok (x : Int) (h0 : 0 ≤ x) (h1 : x < 18446744073709551616) : Calls Tryz.prog 155 #[.int .u64 x] w fun e w' => e = .returned (.bool (x % 2 == 1)) ∧ w = w' := by
  have e1 : x.tmod 2 = x % 2 := Int.tmod_eq_emod_of_nonneg h0
  have e2 : IntKind.u64.wrap (x % 2) = x % 2 := by rw [IntKind.wrap_u64]; omega
  go_enter Tryz.func155, Tryz.ntmps155
  go_wp2
  go_ret
  exact ⟨rfl, rfl⟩
set_option maxHeartbeats 8000000 in
theorem fdecide_ok (s d : Int) (s0 : 0 ≤ s) (s1 : s < 18446744073709551616) (d0 : 0 ≤ d) (d1 : d < 18446744073709551616) (p a : Bool) (er : Int) (h : fDecide s d = (p, a, er)) : Calls Tryz.prog 92 #[.int .u64 s, .int .u64 d] w fun e w' => e = .returned (.tuple #[.bool p, .bool a, .int .i64 er]) ∧ w = w' := by
  by_cases hok : fOk s = true
  · by_cases hd : 1099511627775 < d / 2
    · have dd : decide (1099511627775 < d / 2) = true := decide_eq_true hd
      unfold fDecide at h
      rw [if_pos (.inr hd)] at h
      cases h
      clear hd
      go_enter Tryz.func92, Tryz.ntmps92
      go_wp2_with fail
      refine (fcheck_yes s s0 s1 hok).mono ?_
      rintro e' w' ⟨rfl, rfl⟩
      go_wp2_with fail
      refine (fdgen_ok d d0 d1).mono ?_
      rintro e' w' ⟨rfl, rfl⟩
      go_wp2
      go_ret3
      exact ⟨rfl, rfl⟩
    · have dd : decide (1099511627775 < d / 2) = false := decide_eq_false hd
      unfold fDecide at h
      rw [if_neg (by simp only [hok]; simp; omega)] at h
      obtain ⟨D, hD⟩ : ∃ D, fDec s d = D := ⟨_, rfl⟩
      rw [hD] at h
      have hkk := fOk_kind hok
      obtain ⟨K, hK⟩ : ∃ K, K = fKind s := ⟨_, rfl⟩
      rw [← hK] at h hkk
      have HK := hid hK
      have HOK := hid hok
      have HD := hid hD
      unfold fDec at hD
      by_cases hg : d / 2 = fGen s
      · have dg : (d / 2 == fGen s) = true := beq_iff_eq.2 hg
        have dc : (d % 2 == 1) = D := by
          rw [← hD, Bool.eq_iff_iff]; simp [hg]
        clear hd hD hg hK hok
        rcases hkk with rfl | rfl | rfl | rfl | rfl | rfl
        all_goals
          cases h
          go_enter Tryz.func92, Tryz.ntmps92
          go_wp2_with fail
          refine (fcheck_yes s s0 s1 HOK.out).mono ?_
          rintro e' w' ⟨rfl, rfl⟩
          go_wp2_with fail
          refine (fdgen_ok d d0 d1).mono ?_
          rintro e' w' ⟨rfl, rfl⟩
          go_wp2_with fail
          refine (fdgen_ok d d0 d1).mono ?_
          rintro e' w' ⟨rfl, rfl⟩
          go_wp2_with fail
          refine (fgen_ok s s0 s1).mono ?_
          rintro e' w' ⟨rfl, rfl⟩
          go_wp2_with fail
          refine (fcomm_ok d d0 d1).mono ?_
          rintro e' w' ⟨rfl, rfl⟩
          go_wp2_with fail
          refine (fkind_ok s s0 s1).mono ?_
          rintro e' w' ⟨rfl, rfl⟩
          rw [← HK.out]
          go_wp2
          go_ret3
          exact ⟨rfl, rfl⟩
      · have dg : (d / 2 == fGen s) = false := beq_eq_false_iff_ne.2 hg
        have hT : D = true := by rw [← hD]; simp [hg]
        have dg2 : (d / 2 != fGen s) = true := by simp [hg]
        have dg3 : decide (d / 2 = fGen s) = false := decide_eq_false hg
        clear hd hD hK hok
        subst hT
        rcases hkk with rfl | rfl | rfl | rfl | rfl | rfl
        all_goals
          cases h
          go_enter Tryz.func92, Tryz.ntmps92
          go_wp2_with fail
          refine (fcheck_yes s s0 s1 HOK.out).mono ?_
          rintro e' w' ⟨rfl, rfl⟩
          go_wp2_with fail
          refine (fdgen_ok d d0 d1).mono ?_
          rintro e' w' ⟨rfl, rfl⟩
          go_wp2_with fail
          refine (fdgen_ok d d0 d1).mono ?_
          rintro e' w' ⟨rfl, rfl⟩
          go_wp2_with fail
          refine (fgen_ok s s0 s1).mono ?_
          rintro e' w' ⟨rfl, rfl⟩
          go_wp2_with fail
          refine (fkind_ok s s0 s1).mono ?_
          rintro e' w' ⟨rfl, rfl⟩
          rw [← HK.out]
          go_wp2
          go_ret3
          exact ⟨rfl, rfl⟩
  · have hno : fOk s = false := by simpa using hok
    unfold fDecide at h
    rw [if_pos (.inl hno)] at h
    cases h
    go_enter Tryz.func92, Tryz.ntmps92
    go_wp2_with fail
    refine (fcheck_no s s0 s1 hno).mono ?_
    rintro e' w' ⟨rfl, rfl⟩
    go_wp2
    go_ret3
    exact ⟨rfl, rfl⟩
set_option maxHeartbeats 2000000 in
theorem fstate_ok (k e g : Int) (k0 : 0 ≤ k) (k1 : k < 256) (e0 : 0 ≤ e) (e1 : e < 16) (g0 : 0 ≤ g) (g1 : g ≤ 1099511627775) (hv : fValid k e g = true) (s : Int) (hs : s = k + 8 * e + 65536 * g) : Calls Tryz.prog 85 #[.int .u8 k, .int .i64 e, .int .u64 g] w fun e w' => e = .returned (.tuple #[.int .u64 s, .int .i64 0]) ∧ w = w' := by
  have a1 : IntKind.u64.wrap k = k := by rw [IntKind.wrap_u64]; omega
  have a2 : IntKind.u64.wrap e = e := by rw [IntKind.wrap_u64]; omega
  have a3 : IntKind.u64.wrap (8 * e) = 8 * e := by rw [IntKind.wrap_u64]; omega
  have a4 : IntKind.u64.wrap (65536 * g) = 65536 * g := by rw [IntKind.wrap_u64]; omega
  have a5 : IntKind.u64.wrap (k + 8 * e) = k + 8 * e := by rw [IntKind.wrap_u64]; omega
  have a6 : IntKind.u64.wrap (k + 8 * e + 65536 * g) = s := by rw [IntKind.wrap_u64]; omega
  clear hs
  go_enter Tryz.func85, Tryz.ntmps85
  go_wp2_with fail
  refine (fvalid_ok _ _ _ k0 k1 g0 true hv).mono ?_
  rintro e' w' ⟨rfl, rfl⟩
  go_wp2
  go_ret2
  exact ⟨rfl, rfl⟩
set_option maxHeartbeats 2000000 in
theorem fdesc_ok (g : Int) (c : Bool) (g0 : 0 ≤ g) (g1 : g ≤ 1099511627775) (s : Int) (hs : s = 2 * g + (if c = true then 1 else 0)) : Calls Tryz.prog 86 #[.int .u64 g, .bool c] w fun e w' => e = .returned (.tuple #[.int .u64 s, .int .i64 0]) ∧ w = w' := by
  have d : decide (1099511627775 < g) = false := decide_eq_false (by omega)
  have a3 : IntKind.u64.wrap (2 * g) = 2 * g := by rw [IntKind.wrap_u64]; omega
  have a4 : IntKind.u64.wrap (2 * g + 1) = 2 * g + 1 := by rw [IntKind.wrap_u64]; omega
  cases c
  · have : s = 2 * g := by simpa using hs
    subst this
    clear hs
    go_enter Tryz.func86, Tryz.ntmps86
    go_wp2
    go_ret2
    exact ⟨rfl, rfl⟩
  · have : s = 2 * g + 1 := by simpa using hs
    subst this
    clear hs
    go_enter Tryz.func86, Tryz.ntmps86
    go_wp2
    go_ret2
    exact ⟨rfl, rfl⟩
end
end Go.Proofs.YtmafdjhjmnghcaaGreat
