/- GatePlaces: the walk. -/
import Derived.Test.YtihgfklajhhikaaGate1
import Derived.Test.YtihgfklajhhikaaSizesWalk
namespace Go.Proofs.Ytihgfklajhhikaa
open Go.RowKit Go.Lf

set_option maxRecDepth 100000 in
set_option maxHeartbeats 4000000 in
theorem gplaces_in (w : World) (size : Nat) (h0 : 1 ≤ size) (h1 : size ≤ 200) (base n : Int) :
    Calls Try.prog 3 #[.int .i64 size, .int .i64 base, .int .i64 n] w fun e w' => e = .returned (.bool true) ∧ Keep Nil w w' := by
  have s1 : (1 : Int) ≤ (size : Int) := by omega
  have s2 : (size : Int) ≤ 200 := by omega
  go_enter Try.func3, Try.ntmps3
  go_wp2_with (at_make; refine wpList_mk _ rfl _ _ 26 rfl 49 _ 1 8 Try.underlying26 infoU64 _ _ (size : Int) rfl rfl ?p0 ?p1 ?p2 ?_)
  case p0 => omega
  case p1 => omega
  case p2 => omega
  intro w1 hh hk hz
  have hrd := zeros_rd hh
  have HK := hid hk
  have HRD := hid hrd
  clear hh hk hz hrd
  go_wp2_with fail
  refine (new_ok _ _ _ HRD.out (by simp; omega) (by simp; omega)).mono ?_
  rintro e w2 ⟨b, F, rfl, hm, k2, f2⟩
  have HM := hid hm
  have HO := hid (Own.fresh HK.out k2 f2)
  clear hm k2 f2 HRD
  go_wp2_with (at_make; refine wpList_mk _ rfl _ _ 26 rfl 49 _ 1 8 Try.underlying26 infoU64 _ _ (size : Int) rfl rfl ?p0 ?p1 ?p2 ?_)
  case p0 => omega
  case p1 => omega
  case p2 => omega
  intro w3 hh hk hz
  have hrd := zeros_rd hh
  have HM3 := hid (HM.out.keep hk (fun _ _ h => h))
  have HO3 := hid (HO.out.1.trans hk (fun _ _ h => h))
  have HRD := hid hrd
  clear hh hk hz hrd HM HO
  go_wp2_with fail
  refine (rnew_ok _ _ _ HRD.out (by simp; omega) (by simp; omega)).mono ?_
  rintro e w4 ⟨b', F', rfl, hr, k4, f4⟩
  have HM4 := hid (HM3.out.keep k4 (fun _ _ h => h))
  have HO4 := hid (HO3.out.trans k4 (fun _ _ h => h))
  have HR := hid hr
  clear hr k4 f4 HM3 HO3
  have hl : (List.replicate size (0 : Int)).length ≤ 65536 := by simp; omega
  by_cases hn : n < 1 ∨ 16 < n
  · have he : pErr 4 16 base n (List.replicate size (0 : Int)).length = 2 := pErr_two hn
    have c1 := gnew_err HM4.out hl base n (by rw [he]; decide)
    have c2 := rgnew_err HR.out hl base n (by rw [he]; decide)
    rw [he] at c1 c2
    have C1 := hid c1
    have C2 := hid c2
    have C3 := hid (@gwords_no w4 n hn)
    have C4 := hid (@rgwords_no w4 n hn)
    clear c1 c2 he hn
    go_wp2_with fail
    refine C3.out.mono ?_
    rintro e w5 ⟨rfl, rfl⟩
    go_wp2_with fail
    refine C4.out.mono ?_
    rintro e w5 ⟨rfl, rfl⟩
    go_wp2_with fail
    refine C1.out.mono ?_
    rintro e w5 ⟨rfl, rfl⟩
    go_wp2_with fail
    refine C2.out.mono ?_
    rintro e w5 ⟨rfl, rfl⟩
    go_wp2_with fail
    refine (len_ok HM4.out).mono ?_
    rintro e w5 ⟨rfl, rfl⟩
    go_wp2_with fail
    refine gopen_nil.mono ?_
    rintro e w5 ⟨rfl, rfl⟩
    go_wp2
    go_ret
    exact ⟨rfl, HO4.out⟩
  · have C3 := hid (@gwords_ok w4 n (by omega))
    have C4 := hid (@rgwords_ok w4 n (by omega))
    by_cases hb : base < 0 ∨ ((List.replicate size (0 : Int)).length : Int) < base + 4 * n
    · have he : pErr 4 16 base n (List.replicate size (0 : Int)).length = 3 := pErr_three hn hb
      have c1 := gnew_err HM4.out hl base n (by rw [he]; decide)
      have c2 := rgnew_err HR.out hl base n (by rw [he]; decide)
      rw [he] at c1 c2
      have C1 := hid c1
      have C2 := hid c2
      clear c1 c2 he hn hb
      go_wp2_with fail
      refine C3.out.mono ?_
      rintro e w5 ⟨rfl, rfl⟩
      go_wp2_with fail
      refine C4.out.mono ?_
      rintro e w5 ⟨rfl, rfl⟩
      go_wp2_with fail
      refine C1.out.mono ?_
      rintro e w5 ⟨rfl, rfl⟩
      go_wp2_with fail
      refine C2.out.mono ?_
      rintro e w5 ⟨rfl, rfl⟩
      go_wp2_with fail
      refine (len_ok HM4.out).mono ?_
      rintro e w5 ⟨rfl, rfl⟩
      go_wp2_with fail
      refine gopen_nil.mono ?_
      rintro e w5 ⟨rfl, rfl⟩
      go_wp2
      go_ret
      exact ⟨rfl, HO4.out⟩
    · obtain ⟨m, rfl⟩ : ∃ m : Nat, n = m := ⟨n.toNat, by omega⟩
      have he : pErr 4 16 base m (List.replicate size (0 : Int)).length = 0 := by unfold pErr; rw [if_neg hn, if_neg hb]
      have m1 : m ≤ 16 := by omega
      have HE := hid he
      have HL := hid hl
      clear he hn hb hl
      go_wp2_with fail
      refine C3.out.mono ?_
      rintro e w5 ⟨rfl, rfl⟩
      go_wp2_with fail
      refine C4.out.mono ?_
      rintro e w5 ⟨rfl, rfl⟩
      go_wp2_with fail
      refine (gnew_ok HM4.out HL.out base m HE.out).mono ?_
      rintro e w5 ⟨g, r, rfl, hg, k5, -, -⟩
      have HR5 := hid (HR.out.keep k5 (fun _ _ h => h))
      have HM5 := hid (HM4.out.keep k5 (fun _ _ h => h))
      have HO5 := hid (HO4.out.trans k5 (fun _ _ h => h))
      have HG := hid hg
      clear hg k5 HR HM4 HO4
      go_wp2_with fail
      refine (rgnew_ok HR5.out HL.out base m HE.out).mono ?_
      rintro e w6 ⟨g2, rfl, k6⟩
      have HM6 := hid (HM5.out.keep k6 (fun _ _ h => h))
      have HO6 := hid (HO5.out.trans k6 (fun _ _ h => h))
      have HG6 := hid (GNewAt.mk (k6.at HG.out.head (fun h => h)) (k6.at HG.out.map (fun h => h)))
      clear k6 HR5 HM5 HO5 HG
      go_wp2_with fail
      refine (len_ok HM6.out).mono ?_
      rintro e w7 ⟨rfl, rfl⟩
      go_wp2_with fail
      refine (gopen_new HG6.out).mono ?_
      rintro e w7 ⟨rfl, rfl⟩
      go_wp2
      go_ret
      exact ⟨rfl, HO6.out⟩
theorem walk_gplaces (w : World) (size : Int) (_b0 : (Lit.int .i64 size).wf = true) (base : Int) (_b1 : (Lit.int .i64 base).wf = true) (n : Int) (_b2 : (Lit.int .i64 n).wf = true) :
    Calls Try.prog 3 #[.int .i64 size, .int .i64 base, .int .i64 n] w fun e w' => e = .returned (.bool true) ∧ Keep Nil w w' := by
  by_cases h1 : size < 1
  · have d1 : decide (size < 1) = true := decide_eq_true h1
    clear h1
    go_enter Try.func3, Try.ntmps3
    go_wp2
    go_ret
    exact ⟨rfl, Keep.refl _ _⟩
  by_cases h2 : 200 < size
  · have d1 : decide (size < 1) = false := decide_eq_false h1
    have d2 : decide (200 < size) = true := decide_eq_true h2
    clear h1 h2
    go_enter Try.func3, Try.ntmps3
    go_wp2
    go_ret
    exact ⟨rfl, Keep.refl _ _⟩
  obtain ⟨s, rfl⟩ : ∃ s : Nat, size = s := ⟨size.toNat, by omega⟩
  exact gplaces_in w s (by omega) (by omega) base n
end Go.Proofs.Ytihgfklajhhikaa
