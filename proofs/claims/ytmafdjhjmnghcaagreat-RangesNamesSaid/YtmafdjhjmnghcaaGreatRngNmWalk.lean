/- RangesNames: the walk. -/
import Derived.Test.YtmafdjhjmnghcaaGreatRngNm
import Derived.Test.YtmafdjhjmnghcaaGreatReadShown
set_option linter.unusedVariables false
set_option linter.unusedSimpArgs false
namespace Go.Proofs.YtmafdjhjmnghcaaGreat
open Go.RowKit Go.Lf
attribute [local go_sem] fld0 fld1 fld2 fld3 fld4 fld5 fld6 fld7 fld8 fld9 fldc fldl
section
theorem ptr_ne {P : Program} (w : World) {t te : TypeId} (h : P.underlying t = some (.pointer te)) : True := trivial
set_option maxRecDepth 100000 in
set_option maxHeartbeats 8000000 in
theorem walk_knames (w : World) : Calls Tryz.prog 3 #[] w fun e w' => e = .returned (.bool true) ∧ Keep Nil w w' := by
  go_enter Tryz.func3, Tryz.ntmps3
  go_wp2_with fail
  refine (knew_nil 0 _ ⟨_, _, rfl⟩ 1).mono ?_
  rintro e w0 ⟨rfl, hk0⟩
  have HK0 := hid hk0
  clear hk0
  go_wp2_with fail
  refine (kstep_nil).mono ?_
  rintro e w' ⟨rfl, rfl⟩
  go_wp2_with fail
  refine (kres_nil).mono ?_
  rintro e w' ⟨rfl, rfl⟩
  go_wp2_with fail
  refine (knext_nil).mono ?_
  rintro e w' ⟨rfl, rfl⟩
  go_wp2_with fail
  refine (kunlock_nil _ _).mono ?_
  rintro e w' ⟨rfl, rfl⟩
  go_wp2_with fail
  refine (held_nil).mono ?_
  rintro e w' ⟨rfl, rfl⟩
  go_wp2_with fail
  refine example_ok.mono ?_
  rintro e w1 ⟨rfl, hk1⟩
  have HK1 := hid (HK0.out.trans hk1 (fun _ _ h => h))
  clear hk1
  go_wp2_with fail
  refine exnew_ok.mono ?_
  rintro e w2 hnew
  obtain ⟨b, mb, rfl, hs⟩ := SW.new HK1.out hnew
  have HS := hid (show SW w w2 exC b mb rW0 [] from hs)
  clear hnew hs HK1 HK0
  obtain ⟨X0, hX⟩ : ∃ X : World, X = w2.alloc (.cells #[.int .i64 (-1), .int .i64 64, .int .i64 4611686018427387904] 3) := ⟨_, rfl⟩
  have HL := hid (show X0.heap[w2.heap.size]? = some (.cells (i64s [-1, 64, 4611686018427387904]).toArray 3 (0, 0)) from hX ▸ heap_alloc_new w2 _)
  have HSX := hid (HS.out.quiet (hX ▸ (Keep.refl Nil w2).alloc (.cells #[.int .i64 (-1), .int .i64 64, .int .i64 4611686018427387904] 3)))
  go_wp2
  rw [← hX]
  clear hX HS
  go_loopw [80] (fun i wz => ∃ k : Nat, k ≤ 3 ∧ i = .int .i64 k ∧ Keep Nil X0 wz) (fun i _ => 3 - (intOf i).toNat)
  case atStart => exact ⟨0, by decide, rfl, Keep.refl _ _⟩
  case round =>
    obtain ⟨k, hk, rfl, hkw⟩ := hrel
    have HKW := hid hkw
    clear hkw
    by_cases hlt : k < 3
    · obtain ⟨x, hx, hxr⟩ : ∃ x : Int, ([-1, 64, 4611686018427387904] : List Int)[k]? = some x ∧ (x < 0 ∨ 64 ≤ x) := by
        have : k = 0 ∨ k = 1 ∨ k = 2 := by omega
        rcases this with rfl | rfl | rfl
        · exact ⟨_, rfl, .inl (by decide)⟩
        · exact ⟨_, rfl, .inr (by decide)⟩
        · exact ⟨_, rfl, .inr (by decide)⟩
      have cx : wr.cell? ⟨w2.heap.size, k, none⟩ = some (.int .i64 x) := by
        rw [cell_of (HKW.out.at HL.out (fun h => h)), List.getElem?_toArray]
        unfold i64s
        rw [List.getElem?_map, hx]; rfl
      have k0 : (0 : Int) ≤ (k : Int) := by omega
      have k1 : (k : Int) < 3 := by omega
      have d1 : decide ((k : Int) < 3) = true := decide_eq_true (by omega)
      have wk : IntKind.i64.wrap ((k : Int) + 1) = (k : Int) + 1 := by rw [IntKind.wrap_i64]; omega
      have HXR := hid hxr
      clear hx hxr
      go_wp2_with fail
      refine (knew_arg x 1 0 1 (HXR.out.elim .inl (fun h => .inr (.inl h)))).mono ?_
      rintro e w3 ⟨rfl, hk3⟩
      have HK3 := hid (HKW.out.trans hk3 (fun _ _ h => h))
      clear hk3
      go_wp2_with fail
      refine (kunlock_arg x 9 HXR.out).mono ?_
      rintro e w4 ⟨rfl, rfl⟩
      go_wp2
      go_roundw
      case rel => exact ⟨k + 1, by omega, by go_num, HK3.out⟩
      case measure => simp [intOf]; omega
    · obtain rfl : k = 3 := by omega
      clear hlt hk
      have HSA := hid (HSX.out.quiet HKW.out)
      clear HKW HSX HL
      obtain ⟨X1, hX⟩ : ∃ X : World, X = wr.alloc (.cells #[.int .i64 (-1), .int .i64 256] 3) := ⟨_, rfl⟩
      have HL := hid (show X1.heap[wr.heap.size]? = some (.cells (i64s [-1, 256]).toArray 3 (0, 0)) from hX ▸ heap_alloc_new wr _)
      have HSX := hid (HSA.out.quiet (hX ▸ (Keep.refl Nil wr).alloc (.cells #[.int .i64 (-1), .int .i64 256] 3)))
      obtain ⟨lb, hlb⟩ : ∃ lb, lb = wr.heap.size := ⟨_, rfl⟩
      rw [← hlb] at HL
      go_wp2
      rw [← hX, ← hlb]
      clear hX HSA hlb
      go_loopw [106] (fun i wz => ∃ k : Nat, k ≤ 2 ∧ i = .int .i64 k ∧ Keep Nil X1 wz) (fun i _ => 2 - (intOf i).toNat)
      case atStart => exact ⟨0, by decide, rfl, Keep.refl _ _⟩
      case round =>
        obtain ⟨k, hk, rfl, hkw⟩ := hrel
        have HKW := hid hkw
        clear hkw
        by_cases hlt : k < 2
        · obtain ⟨x, hx, hxr⟩ : ∃ x : Int, ([-1, 256] : List Int)[k]? = some x ∧ (x < 0 ∨ 255 < x) := by
            have : k = 0 ∨ k = 1 := by omega
            rcases this with rfl | rfl
            · exact ⟨_, rfl, .inl (by decide)⟩
            · exact ⟨_, rfl, .inr (by decide)⟩
          have cx : wr.cell? ⟨lb, k, none⟩ = some (.int .i64 x) := by
            rw [cell_of (HKW.out.at HL.out (fun h => h)), List.getElem?_toArray]
            unfold i64s
            rw [List.getElem?_map, hx]; rfl
          have k0 : (0 : Int) ≤ (k : Int) := by omega
          have k1 : (k : Int) < 2 := by omega
          have d1 : decide ((k : Int) < 2) = true := decide_eq_true (by omega)
          have wk : IntKind.i64.wrap ((k : Int) + 1) = (k : Int) + 1 := by rw [IntKind.wrap_i64]; omega
          have HXR := hid hxr
          clear hx hxr
          go_wp2_with fail
          refine (knew_arg 0 1 0 x (.inr (.inr (HXR.out.elim .inl .inr)))).mono ?_
          rintro e w3 ⟨rfl, hk3⟩
          have HK3 := hid (HKW.out.trans hk3 (fun _ _ h => h))
          clear hk3
          go_wp2
          go_roundw
          case rel =>
            (repeat apply Exists.intro)
            exact ⟨⟨k + 1, by omega, by go_num, HK3.out⟩, rfl⟩
          case measure => simp [intOf]; omega
        · obtain rfl : k = 2 := by omega
          clear hlt hk
          have HS := hid (HSX.out.quiet HKW.out)
          clear HKW HSX HL
          go_wp2_with fail
          refine (knew_bad 0 7 3 1 (by decide) (by decide) (by decide) (by decide) (by decide)).mono ?_
          rintro e w5 ⟨rfl, hk⟩
          have HS0 := hid (HS.out.quiet hk)
          clear hk HS
          go_wp2_with fail
          refine (lock_q HS0.out rW0_ok 0 5 5 5 (by decide) (by decide) (by decide) (by decide) (by decide) (by decide) (by decide) (by decide) aW1 7 0 0 0 7 rfl (by decide) (by decide +kernel)).mono ?_
          rintro e w6 ⟨rfl, log1, hl1, hs1, hw1⟩
          have HS1 := hid hs1
          have HW1 := hid hw1
          have HL1 := hid (show log1.length ≤ 7 from hl1)
          clear hs1 hw1 hl1 HS0
          go_wp2_with fail
          refine (lock_q HS1.out HW1.out 0 6 9 5 (by decide) (by decide) (by decide) (by decide) (by decide) (by decide) (by decide) (by have := HL1.out; omega) rW2 9 1 0 0 9 rfl (by decide) (by decide +kernel)).mono ?_
          rintro e w7 ⟨rfl, log2, hl2, hs2, hw2⟩
          have HS2 := hid hs2
          have HW2 := hid hw2
          have HL2 := hid (show log2.length ≤ 16 by have := HL1.out; omega)
          clear hs2 hw2 hl2 HS1 HW1 HL1
          go_wp2_with fail
          refine (kw_new HS2.out 63 1 1 2 (by decide) (by decide) (by decide) (by decide) (by decide)).mono ?_
          rintro e w8 ⟨l, sb, m, rfl, hkw⟩
          have HKW := hid hkw
          clear hkw HS2
          go_wp2_with fail
          refine (kres_ok HKW.out.lk 0 0 8 rfl).mono ?_
          rintro e w9 ⟨rfl, hk⟩
          have HS3 := hid (HKW.out.sw.quiet hk)
          clear hk HKW
          go_wp2_with fail
          refine (lock_q HS3.out HW2.out 1 1 1 2 (by decide) (by decide) (by decide) (by decide) (by decide) (by decide) (by decide) (by have := HL2.out; omega) rW3 16 0 2 11 16 rfl (by decide) (by decide +kernel)).mono ?_
          rintro e w10 ⟨rfl, log3, hl3, hs3, hw3⟩
          have HS4 := hid hs3
          have HW3 := hid hw3
          have HL3 := hid (show log3.length ≤ 32 by have := HL2.out; omega)
          clear hs3 hw3 hl3 HS3 HW2 HL2
          go_wp2_with fail
          refine (sw_unl_range HS4.out 0 2 (by decide) (by decide) (by decide)).mono ?_
          rintro e w11 ⟨rfl, hk⟩
          have HS5 := hid (HS4.out.quiet hk)
          clear hk HS4
          go_wp2_with fail
          refine (sw_unl_range HS5.out 0 (-1) (by decide) (by decide) (by decide)).mono ?_
          rintro e w12 ⟨rfl, hk⟩
          have HS6 := hid (HS5.out.quiet hk)
          clear hk HS5
          go_wp2_with fail
          refine (sw_unl_ok HS6.out 0 (by decide) (by decide) 1 (by decide) (by decide +kernel) (by have := HL3.out; omega)).mono ?_
          rintro e w13 ⟨rfl, log4, hl4, hs4⟩
          have HS7 := hid (show SW w w13 exC b mb rW4 log4 from hs4)
          have HW4 := hid (show WdOk exC rW4 from HW3.out.set 7 (by decide) (by decide))
          have HL4 := hid (show log4.length ≤ 33 by have := HL3.out; omega)
          clear hs4 hl4 HS6 HW3 HL3
          go_wp2_with fail
          refine (sw_unl_state HS7.out 0 (by decide) (by decide) (by decide +kernel)).mono ?_
          rintro e w14 ⟨rfl, hk⟩
          have HS8 := hid (HS7.out.quiet hk)
          clear hk HS7
          go_wp2_with fail
          refine (sw_held HS8.out HW4.out [(6, 9)] (by decide +kernel)).mono ?_
          rintro e w15 ⟨a, cp, rfl, hrd, hk, hb⟩
          have HRD := hid hrd
          have HS9 := hid (HS8.out.quiet hk)
          clear hrd hk hb HS8
          go_wp2_with fail
          refine (eqS_yes _ _ [(6, 9)] _ (rd_keep HRD.out ((Keep.refl Nil w15).alloc _) (fun _ _ h => h)) (rd_new _ _ _ _ _ _ ⟨rfl, rfl⟩) (by decide)).mono ?_
          rintro e w16 ⟨rfl, hk⟩
          have HS10 := hid (HS9.out.quiet (((Keep.refl Nil w15).alloc _).trans hk (fun _ _ h => h)))
          clear hk HS9 HRD
          go_wp2_with fail
          refine (sw_layout HS10.out).mono ?_
          rintro e w17 ⟨L, rfl, hl, rfl⟩
          have HLAY := hid hl
          clear hl
          go_wp2_with fail
          refine (places_ok HLAY.out).mono ?_
          rintro e w17 ⟨rfl, hk⟩
          have HS11 := hid (HS10.out.quiet hk)
          clear hk HLAY HS10
          go_wp2_with fail
          refine (sw_mem HS11.out).mono ?_
          rintro e w18 ⟨rfl, rfl⟩
          go_wp2_with fail
          refine (sw_put HS11.out HW4.out 1 ((exC.master : Nat) : Int) 2 (by decide) (by decide) 6 (by rw [exC_master]) (by rw [exC_words]; decide) (by decide) (by decide) (by have := HL4.out; omega)).mono ?_
          rintro e w18 ⟨rfl, log5, hl5, hs5, hw5⟩
          have HS12 := hid (show SW w w18 exC b mb rW5 log5 from hs5)
          have HW5 := hid (show WdOk exC rW5 from hw5)
          have HL5 := hid (show log5.length ≤ 34 by have := HL4.out; omega)
          clear hs5 hw5 hl5 HS11 HW4 HL4
          go_wp2_with fail
          refine (lock_q HS12.out HW5.out 0 1 1 3 (by decide) (by decide) (by decide) (by decide) (by decide) (by decide) (by decide) (by have := HL5.out; omega) rW6 3 0 3 11 3 rfl (by decide) (by decide +kernel)).mono ?_
          rintro e w19 ⟨rfl, log6, hl6, hs6, hw6⟩
          have HS13 := hid hs6
          clear hs6 hw6 hl6 HS12 HW5 HL5
          go_wp2_with fail
          refine (sw_mem HS13.out).mono ?_
          rintro e w20 ⟨rfl, rfl⟩
          go_wp2_with fail
          refine (sw_peek HS13.out ((exC.master : Nat) : Int) 2 (by omega) (by rw [exC_master]; decide +kernel)).mono ?_
          rintro e w20 ⟨rfl, rfl⟩
          go_wp2_with fail
          refine (kawake_ok).mono ?_
          rintro e w21 ⟨rfl, hk⟩
          have HK := hid (HS13.out.own.trans hk (fun _ _ h => h))
          clear hk
          go_wp2
          go_ret
          exact ⟨rfl, HK.out⟩
end
end Go.Proofs.YtmafdjhjmnghcaaGreat
