/- DomainParts: the walk. -/
import Derived.Test.YtfpobagkananeaaDomLaws
namespace Go.Proofs.Ytfpobagkananeaa
open Go.RowKit Go.Lf

theorem img_lt (d : Dom) (h : d.ok) (lo hi : Int) : d.img lo hi < 18446744073709551616 := bits_64 _ (Dom.cnt_pos h).2

set_option maxRecDepth 100000 in
set_option maxHeartbeats 4000000 in
theorem walk_parts (w : World) (d : Dom) (a : Option Addr) (c : Nat) (hd : DomIn w d a c) (hm : d.cuts.length ≤ maxLen) (lo hi : Int) (hl0 : 0 ≤ lo) (hl1 : lo ≤ topU) (hh : hi ≤ topU) (at' : Int) (ha0 : 0 ≤ at') (ha1 : at' ≤ topU) :
    Calls Try.prog 7 #[dv d a c, .agg #[.int .u64 lo, .int .u64 hi], .int .u64 at'] w fun e w' => e = .returned (.bool true) ∧ Keep Nil w w' := by
  unfold maxLen at hm
  have HD := hid hd
  have HHH := hid hh
  have HL1 := hid hl1
  have HA1 := hid ha1
  clear hd hh hl1 ha1
  go_enter Try.func7, Try.ntmps7
  unfold dv
  go_wp2_with fail
  obtain ⟨W, hW⟩ : ∃ W, W = (w.alloc (.cells #[.int .u8 d.k, .int .i64 d.n, .slice a d.cuts.length c] 32)).alloc (.cells #[.int .u64 lo, .int .u64 hi] 44) := ⟨_, rfl⟩
  rw [← hW]
  have HK := hid (show Keep Nil w W from by rw [hW]; exact ((Keep.refl Nil w).alloc _).alloc _)
  have HB := hid (show DBox W w.heap.size d a c from by rw [hW]; exact (DBox.new w d a c).keep ((Keep.refl Nil _).alloc _))
  have HS := hid (show SBox W (w.heap.size + 1) lo hi from by rw [hW]; exact ⟨by have := heap_alloc_new (w.alloc (.cells #[.int .u8 d.k, .int .i64 d.n, .slice a d.cuts.length c] 32)) (.cells #[.int .u64 lo, .int .u64 hi] 44); rwa [World.size_alloc] at this⟩)
  clear hW
  have fin : ∀ (k : Nat) (w1 : World), True := fun _ _ => trivial
  clear fin
  by_cases hl : d.cuts.length ≤ 200
  · refine (long_any d false (decide_eq_false (by omega))).mono ?_
    rintro e w1 ⟨rfl, hk⟩
    obtain ⟨c0, c1, c2⟩ := (HB.out.keep hk).cells
    have HB1 := hid (HB.out.keep hk)
    have HS1 := hid (HS.out.keep hk)
    have HK1 := hid (HK.out.trans hk (fun _ _ h => h))
    clear hk HB HS HK
    go_wp2_with fail
    refine (check_any d (HD.out.keep HK1.out).rd (by omega)).mono ?_
    rintro e w2 ⟨rfl, hk⟩
    obtain ⟨c0', c1', c2'⟩ := (HB1.out.keep hk).cells
    obtain ⟨s0, s1⟩ := (HS1.out.keep hk).cells
    have HB2 := hid (HB1.out.keep hk)
    have HS2 := hid (HS1.out.keep hk)
    have HK2 := hid (HK1.out.trans hk (fun _ _ h => h))
    clear hk HB1 HS1 HK1 c0 c1 c2
    by_cases hok : d.ok
    · rw [Dom.err_ok hok]
      have HO := hid hok
      clear hok
      by_cases hs : hi < lo
      · have d0 : decide (hi < lo) = true := decide_eq_true hs
        clear hs
        go_wp2_with fail
        refine (known_any _).mono ?_
        rintro e w3 ⟨rfl, hk⟩
        have HK3 := hid (HK2.out.trans hk (fun _ _ h => h))
        clear hk
        go_wp2
        go_ret
        exact ⟨rfl, HK3.out⟩
      · have d0 : decide (hi < lo) = false := decide_eq_false hs
        have hlh : lo ≤ hi := by omega
        clear hs
        go_wp2_with fail
        refine (image_ok d HO.out (HD.out.keep HK2.out).rd (by omega) HD.out.hi lo hi hlh hl0 HHH.out).mono ?_
        rintro e w3 ⟨rfl, hk⟩
        obtain ⟨c0, c1, c2⟩ := (HB2.out.keep hk).cells
        have HB3 := hid (HB2.out.keep hk)
        have HS3 := hid (HS2.out.keep hk)
        have HK3 := hid (HK2.out.trans hk (fun _ _ h => h))
        clear hk HB2 HS2 HK2 c0' c1' c2' s0 s1
        go_wp2_with fail
        refine (image_ok d HO.out (HD.out.keep HK3.out).rd (by omega) HD.out.hi 0 18446744073709551615 (by omega) (by omega) (by unfold topU; omega)).mono ?_
        rw [show d.img 0 18446744073709551615 = d.all from d.img_all HO.out HD.out.hi]
        rintro e w4 ⟨rfl, hk⟩
        obtain ⟨c0', c1', c2'⟩ := (HB3.out.keep hk).cells
        have HB4 := hid (HB3.out.keep hk)
        have HS4 := hid (HS3.out.keep hk)
        have HK4 := hid (HK3.out.trans hk (fun _ _ h => h))
        clear hk HB3 HS3 HK3 c0 c1 c2
        go_wp2_with fail
        refine (all_ok d HO.out (HD.out.keep HK4.out).rd (by omega)).mono ?_
        rintro e w5 ⟨rfl, hk⟩
        obtain ⟨c0, c1, c2⟩ := (HB4.out.keep hk).cells
        obtain ⟨s0, s1⟩ := (HS4.out.keep hk).cells
        have HB5 := hid (HB4.out.keep hk)
        have HS5 := hid (HS4.out.keep hk)
        have HK5 := hid (HK4.out.trans hk (fun _ _ h => h))
        clear hk HB4 HS4 HK4 c0' c1' c2'
        obtain ⟨al, hal⟩ : ∃ al : Int, al = d.all := ⟨_, rfl⟩
        rw [← hal]
        clear hal
        have e1 : (al != al) = false := by simp
        by_cases hat : at' < lo
        · have d1 : decide (at' < lo) = true := decide_eq_true hat
          clear hat
          go_wp2_with fail
          refine (known_any _).mono ?_
          rintro e w6 ⟨rfl, hk⟩
          have HK6 := hid (HK5.out.trans hk (fun _ _ h => h))
          clear hk
          go_wp2
          go_ret
          exact ⟨rfl, HK6.out⟩
        · have d1 : decide (at' < lo) = false := decide_eq_false hat
          by_cases hat2 : hi ≤ at'
          · have d2 : decide (hi ≤ at') = true := decide_eq_true hat2
            clear hat2 hat
            go_wp2_with fail
            refine (known_any _).mono ?_
            rintro e w6 ⟨rfl, hk⟩
            have HK6 := hid (HK5.out.trans hk (fun _ _ h => h))
            clear hk
            go_wp2
            go_ret
            exact ⟨rfl, HK6.out⟩
          · have d2 : decide (hi ≤ at') = false := decide_eq_false hat2
            have hor := hid (show Go.bits .or .u64 (d.img lo at' : Nat) (d.img (at' + 1) hi : Nat) = ((d.img lo hi : Nat) : Int) by
              rw [bits_or_u64 (img_lt d HO.out _ _) (img_lt d HO.out _ _), d.img_parts HO.out HD.out.hi hl0 (by omega) (by omega) HHH.out])
            have hb1 : lo ≤ at' := by omega
            have hb2 : at' < hi := by omega
            have hb3 : at' < 18446744073709551615 := by have := HHH.out; unfold topU at this; omega
            clear hat hat2
            go_wp2_with fail
            refine (image_ok d HO.out (HD.out.keep HK5.out).rd (by omega) HD.out.hi lo at' hb1 hl0 (by have := HHH.out; omega)).mono ?_
            rintro e w6 ⟨rfl, hk⟩
            obtain ⟨c0', c1', c2'⟩ := (HB5.out.keep hk).cells
            obtain ⟨s0', s1'⟩ := (HS5.out.keep hk).cells
            have HK6 := hid (HK5.out.trans hk (fun _ _ h => h))
            clear hk HB5 HS5 HK5 c0 c1 c2 s0 s1
            go_wp2_with fail
            refine (image_ok d HO.out (HD.out.keep HK6.out).rd (by omega) HD.out.hi (at' + 1) hi (by omega) (by omega) HHH.out).mono ?_
            rintro e w7 ⟨rfl, hk⟩
            have HK7 := hid (HK6.out.trans hk (fun _ _ h => h))
            clear hk HK6 c0' c1' c2' s0' s1'
            obtain ⟨p1, hp1⟩ : ∃ p1 : Int, p1 = d.img lo at' := ⟨_, rfl⟩
            obtain ⟨p2, hp2⟩ : ∃ p2 : Int, p2 = d.img (at' + 1) hi := ⟨_, rfl⟩
            obtain ⟨p3, hp3⟩ : ∃ p3 : Int, p3 = d.img lo hi := ⟨_, rfl⟩
            rw [← hp1, ← hp2, ← hp3] at hor
            rw [← hp1, ← hp2, ← hp3]
            clear hp1 hp2 hp3
            have e2 : (Go.bits .or .u64 p1 p2 == p3) = true := beq_iff_eq.2 hor.out
            go_wp2_with fail
            refine (known_any _).mono ?_
            rintro e w8 ⟨rfl, hk⟩
            have HK8 := hid (HK7.out.trans hk (fun _ _ h => h))
            clear hk
            go_wp2
            go_ret
            exact ⟨rfl, HK8.out⟩
    · rw [Dom.err_bad hok]
      clear hok
      go_wp2_with fail
      refine (known_any _).mono ?_
      rintro e w3 ⟨rfl, hk⟩
      have HK3 := hid (HK2.out.trans hk (fun _ _ h => h))
      clear hk
      go_wp2
      go_ret
      exact ⟨rfl, HK3.out⟩
  · refine (long_any d true (decide_eq_true (by omega))).mono ?_
    rintro e w1 ⟨rfl, hk⟩
    have HK1 := hid (HK.out.trans hk (fun _ _ h => h))
    clear hk
    go_wp2_with fail
    refine (known_any _).mono ?_
    rintro e w2 ⟨rfl, hk⟩
    have HK2 := hid (HK1.out.trans hk (fun _ _ h => h))
    clear hk
    go_wp2
    go_ret
    exact ⟨rfl, HK2.out⟩
end Go.Proofs.Ytfpobagkananeaa
