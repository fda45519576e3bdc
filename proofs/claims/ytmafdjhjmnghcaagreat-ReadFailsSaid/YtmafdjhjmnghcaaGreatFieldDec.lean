/- Decide, State, Desc: the contracts. -/
import Derived.Test.YtmafdjhjmnghcaaGreatField
set_option linter.unusedVariables false
set_option linter.unusedSimpArgs false
namespace Go.Proofs.YtmafdjhjmnghcaaGreat
open Go.RowKit Go.Lf
section
variable {w : World}
set_option maxHeartbeats 2000000 in
theorem fdgen_ok (x : Int) (h0 : 0 ≤ x) (h1 : x < 18446744073709551616) : Calls Tryz.prog 154 #[.int .u64 x] w fun e w' => e = .returned (.int .u64 (x / 2)) ∧ w = w' := by
  have e1 : x.tdiv 2 = x / 2 := Int.tdiv_eq_ediv_of_nonneg h0
  have e2 : IntKind.u64.wrap (x / 2) = x / 2 := by rw [IntKind.wrap_u64]; omega
  go_enter Tryz.func154, Tryz.ntmps154
  go_wp2
  go_ret
  exact ⟨rfl, rfl⟩
set_option maxHeartbeats 2000000 in
theorem fcomm_ok (x : Int) (h0 : 0 ≤ x) (h1 : x < 18446744073709551616) : Calls Tryz.prog 155 #[.int .u64 x] w fun e w' => e = .returned (.bool (x % 2 == 1)) ∧ w = w' := by
  have e1 : x.tmod 2 = x % 2 := Int.tmod_eq_emod_of_nonneg h0
  have e2 : IntKind.u64.wrap (x % 2) = x % 2 := by rw [IntKind.wrap_u64]; omega
  go_enter Tryz.func155, Tryz.ntmps155
  go_wp2
  go_ret
  exact ⟨rfl, rfl⟩
set_option maxHeartbeats 8000000 in
theorem fdecide_ok (s d : Int) (s0 : 0 ≤ s) (s1 : s < 18446744073709551616) (d0 : 0 ≤ d) (d1 : d < 18446744073709551616) (p a : Bool) (er : Int) (h : fDecide s d = (p, a, er)) : Calls Tryz.prog 92 #[.int .u64 s, .int .u64 d] w fun e w' => e = .returned (.tuple #[.bool p, .bool a, .int .i64 er]) ∧ w = w' := by
  by_cases hok : fOk s = true
  · by_cases hd : 1099511627775 < d / 2
    · have dd : decide (1099511627775 < d / 2) = true := decide_eq_true hd
      unfold fDecide at h
      rw [if_pos (.inr hd)] at h
      cases h
      clear hd
      go_enter Tryz.func92, Tryz.ntmps92
      go_wp2_with fail
      refine (fcheck_yes s s0 s1 hok).mono ?_
      rintro e' w' ⟨rfl, rfl⟩
      go_wp2_with fail
      refine (fdgen_ok d d0 d1).mono ?_
      rintro e' w' ⟨rfl, rfl⟩
      go_wp2
      go_ret3
      exact ⟨rfl, rfl⟩
    · have dd : decide (1099511627775 < d / 2) = false := decide_eq_false hd
      unfold fDecide at h
      rw [if_neg (by simp only [hok]; simp; omega)] at h
      obtain ⟨D, hD⟩ : ∃ D, fDec s d = D := ⟨_, rfl⟩
      rw [hD] at h
      have hkk := fOk_kind hok
      obtain ⟨K, hK⟩ : ∃ K, K = fKind s := ⟨_, rfl⟩
      rw [← hK] at h hkk
      have HK := hid hK
      have HOK := hid hok
      have HD := hid hD
      unfold fDec at hD
      by_cases hg : d / 2 = fGen s
      · have dg : (d / 2 == fGen s) = true := beq_iff_eq.2 hg
        have dc : (d % 2 == 1) = D := by
          rw [← hD, Bool.eq_iff_iff]; simp [hg]
        clear hd hD hg hK hok
        rcases hkk with rfl | rfl | rfl | rfl | rfl | rfl
        all_goals
          cases h
          go_enter Tryz.func92, Tryz.ntmps92
          go_wp2_with fail
          refine (fcheck_yes s s0 s1 HOK.out).mono ?_
          rintro e' w' ⟨rfl, rfl⟩
          go_wp2_with fail
          refine (fdgen_ok d d0 d1).mono ?_
          rintro e' w' ⟨rfl, rfl⟩
          go_wp2_with fail
          refine (fdgen_ok d d0 d1).mono ?_
          rintro e' w' ⟨rfl, rfl⟩
          go_wp2_with fail
          refine (fgen_ok s s0 s1).mono ?_
          rintro e' w' ⟨rfl, rfl⟩
          go_wp2_with fail
          refine (fcomm_ok d d0 d1).mono ?_
          rintro e' w' ⟨rfl, rfl⟩
          go_wp2_with fail
          refine (fkind_ok s s0 s1).mono ?_
          rintro e' w' ⟨rfl, rfl⟩
          rw [← HK.out]
          go_wp2
          go_ret3
          exact ⟨rfl, rfl⟩
      · have dg : (d / 2 == fGen s) = false := beq_eq_false_iff_ne.2 hg
        have hT : D = true := by rw [← hD]; simp [hg]
        have dg2 : (d / 2 != fGen s) = true := by simp [hg]
        have dg3 : decide (d / 2 = fGen s) = false := decide_eq_false hg
        clear hd hD hK hok
        subst hT
        rcases hkk with rfl | rfl | rfl | rfl | rfl | rfl
        all_goals
          cases h
          go_enter Tryz.func92, Tryz.ntmps92
          go_wp2_with fail
          refine (fcheck_yes s s0 s1 HOK.out).mono ?_
          rintro e' w' ⟨rfl, rfl⟩
          go_wp2_with fail
          refine (fdgen_ok d d0 d1).mono ?_
          rintro e' w' ⟨rfl, rfl⟩
          go_wp2_with fail
          refine (fdgen_ok d d0 d1).mono ?_
          rintro e' w' ⟨rfl, rfl⟩
          go_wp2_with fail
          refine (fgen_ok s s0 s1).mono ?_
          rintro e' w' ⟨rfl, rfl⟩
          go_wp2_with fail
          refine (fkind_ok s s0 s1).mono ?_
          rintro e' w' ⟨rfl, rfl⟩
          rw [← HK.out]
          go_wp2
          go_ret3
          exact ⟨rfl, rfl⟩
  · have hno : fOk s = false := by simpa using hok
    unfold fDecide at h
    rw [if_pos (.inl hno)] at h
    cases h
    go_enter Tryz.func92, Tryz.ntmps92
    go_wp2_with fail
    refine (fcheck_no s s0 s1 hno).mono ?_
    rintro e' w' ⟨rfl, rfl⟩
    go_wp2
    go_ret3
    exact ⟨rfl, rfl⟩
set_option maxHeartbeats 2000000 in
theorem fstate_ok (k e g : Int) (k0 : 0 ≤ k) (k1 : k < 256) (e0 : 0 ≤ e) (e1 : e < 16) (g0 : 0 ≤ g) (g1 : g ≤ 1099511627775) (hv : fValid k e g = true) (s : Int) (hs : s = k + 8 * e + 65536 * g) : Calls Tryz.prog 85 #[.int .u8 k, .int .i64 e, .int .u64 g] w fun e w' => e = .returned (.tuple #[.int .u64 s, .int .i64 0]) ∧ w = w' := by
  have a1 : IntKind.u64.wrap k = k := by rw [IntKind.wrap_u64]; omega
  have a2 : IntKind.u64.wrap e = e := by rw [IntKind.wrap_u64]; omega
  have a3 : IntKind.u64.wrap (8 * e) = 8 * e := by rw [IntKind.wrap_u64]; omega
  have a4 : IntKind.u64.wrap (65536 * g) = 65536 * g := by rw [IntKind.wrap_u64]; omega
  have a5 : IntKind.u64.wrap (k + 8 * e) = k + 8 * e := by rw [IntKind.wrap_u64]; omega
  have a6 : IntKind.u64.wrap (k + 8 * e + 65536 * g) = s := by rw [IntKind.wrap_u64]; omega
  clear hs
  go_enter Tryz.func85, Tryz.ntmps85
  go_wp2_with fail
  refine (fvalid_ok _ _ _ k0 k1 g0 true hv).mono ?_
  rintro e' w' ⟨rfl, rfl⟩
  go_wp2
  go_ret2
  exact ⟨rfl, rfl⟩
set_option maxHeartbeats 2000000 in
theorem fdesc_ok (g : Int) (c : Bool) (g0 : 0 ≤ g) (g1 : g ≤ 1099511627775) (s : Int) (hs : s = 2 * g + (if c = true then 1 else 0)) : Calls Tryz.prog 86 #[.int .u64 g, .bool c] w fun e w' => e = .returned (.tuple #[.int .u64 s, .int .i64 0]) ∧ w = w' := by
  have d : decide (1099511627775 < g) = false := decide_eq_false (by omega)
  have a3 : IntKind.u64.wrap (2 * g) = 2 * g := by rw [IntKind.wrap_u64]; omega
  have a4 : IntKind.u64.wrap (2 * g + 1) = 2 * g + 1 := by rw [IntKind.wrap_u64]; omega
  cases c
  · have : s = 2 * g := by simpa using hs
    subst this
    clear hs
    go_enter Tryz.func86, Tryz.ntmps86
    go_wp2
    go_ret2
    exact ⟨rfl, rfl⟩
  · have : s = 2 * g + 1 := by simpa using hs
    subst this
    clear hs
    go_enter Tryz.func86, Tryz.ntmps86
    go_wp2
    go_ret2
    exact ⟨rfl, rfl⟩
end
end Go.Proofs.YtmafdjhjmnghcaaGreat
