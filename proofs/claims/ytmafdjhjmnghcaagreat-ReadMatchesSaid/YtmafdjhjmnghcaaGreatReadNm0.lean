/- ReadNames: the examples, nil stores and reads, and what New refuses. -/
import Derived.Test.YtmafdjhjmnghcaaGreatReadSays
set_option linter.unusedVariables false
set_option linter.unusedSimpArgs false
namespace Go.Proofs.YtmafdjhjmnghcaaGreat
open Go.RowKit Go.Lf
attribute [local go_sem] fld0 fld1 fld2 fld3 fld4 fld5 fld6 fld7 fld8 fld9 fldc fldl
section
variable {w : World}
theorem lstate_ok (k e g : Int) (k0 : 0 ≤ k) (k1 : k < 256) (e0 : 0 ≤ e) (e1 : e < 16) (g0 : 0 ≤ g) (g1 : g ≤ 1099511627775) (hv : fValid k e g = true) (s : Int) (hs : s = k + 8 * e + 65536 * g) : Calls Tryz.prog 38 #[.int .u8 k, .int .i64 e, .int .u64 g] w fun e w' => e = .returned (.int .u64 s) ∧ w = w' := by
  subst hs
  go_enter Tryz.func38, Tryz.ntmps38
  go_wp2_with fail
  refine (fstate_ok k e g k0 k1 e0 e1 g0 g1 hv _ rfl).mono ?_
  rintro e' w' ⟨rfl, rfl⟩
  go_wp2
  go_ret
  exact ⟨rfl, rfl⟩
theorem ldesc_ok (g : Int) (c : Bool) (g0 : 0 ≤ g) (g1 : g ≤ 1099511627775) (s : Int) (hs : s = 2 * g + (if c = true then 1 else 0)) : Calls Tryz.prog 39 #[.int .u64 g, .bool c] w fun e w' => e = .returned (.int .u64 s) ∧ w = w' := by
  have HS := hid hs
  clear hs
  go_enter Tryz.func39, Tryz.ntmps39
  go_wp2_with fail
  refine (fdesc_ok g c g0 g1 s HS.out).mono ?_
  rintro e' w' ⟨rfl, rfl⟩
  go_wp2
  go_ret
  exact ⟨rfl, rfl⟩
set_option maxRecDepth 100000 in
set_option maxHeartbeats 4000000 in
theorem lawake_ok : Calls Tryz.prog 41 #[] w fun e w' => e = .returned (.bool true) ∧ Keep Nil w w' := by
  go_enter Tryz.func41, Tryz.ntmps41
  go_wp2_with fail
  refine (lstate_ok 1 0 0 (by decide) (by decide) (by decide) (by decide) (by decide) (by decide) (by decide) 1 (by decide)).mono ?_
  rintro e w' ⟨rfl, rfl⟩
  go_wp2_with fail
  refine (says_ok 1 0 (by decide) (by decide) (by decide) (by decide) 2 50 2 rfl true (by decide +kernel)).mono ?_
  rintro e v1 ⟨rfl, hk⟩
  have HQ1 := hid ((Keep.refl Nil w).trans hk (fun _ _ h => h))
  clear hk
  go_wp2_with fail
  refine (lstate_ok 5 0 3 (by decide) (by decide) (by decide) (by decide) (by decide) (by decide) (by decide) 196613 (by decide)).mono ?_
  rintro e w' ⟨rfl, rfl⟩
  go_wp2_with fail
  refine (ldesc_ok 3 true (by decide) (by decide) 7 (by decide)).mono ?_
  rintro e w' ⟨rfl, rfl⟩
  go_wp2_with fail
  refine (says_ok 196613 7 (by decide) (by decide) (by decide) (by decide) 4 60 4 rfl true (by decide +kernel)).mono ?_
  rintro e v2 ⟨rfl, hk⟩
  have HQ2 := hid (HQ1.out.trans hk (fun _ _ h => h))
  clear hk
  go_wp2_with fail
  refine (lstate_ok 3 0 3 (by decide) (by decide) (by decide) (by decide) (by decide) (by decide) (by decide) 196611 (by decide)).mono ?_
  rintro e w' ⟨rfl, rfl⟩
  go_wp2_with fail
  refine (ldesc_ok 3 false (by decide) (by decide) 6 (by decide)).mono ?_
  rintro e w' ⟨rfl, rfl⟩
  go_wp2_with fail
  refine (says_ok 196611 6 (by decide) (by decide) (by decide) (by decide) 2 0 2 rfl false (by decide +kernel)).mono ?_
  rintro e v3 ⟨rfl, hk⟩
  have HQ3 := hid (HQ2.out.trans hk (fun _ _ h => h))
  clear hk
  go_wp2
  go_ret
  exact ⟨rfl, HQ3.out⟩
end
end Go.Proofs.YtmafdjhjmnghcaaGreat
