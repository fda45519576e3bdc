/- DomainImage: the walk. -/
import Derived.Test.YtfpobagkananeaaDomParts
import Derived.Test.YtfpobagkananeaaDomMap2
namespace Go.Proofs.Ytfpobagkananeaa
open Go.RowKit Go.Lf

set_option maxRecDepth 100000 in
set_option maxHeartbeats 8000000 in
theorem image_core (w : World) (d : Dom) (a : Option Addr) (c : Nat) (hd : DomIn w d a c) (hm : d.cuts.length ≤ 200) (hok : d.ok) (lo hi : Int) (hl0 : 0 ≤ lo) (hs : lo ≤ hi) (hh : hi ≤ topU) (key : Int) (ha0 : 0 ≤ key) (ha1 : key ≤ topU) :
    Calls Try.prog 8 #[dv d a c, .agg #[.int .u64 lo, .int .u64 hi], .int .u64 key] w fun e w' => e = .returned (.bool true) ∧ Keep Nil w w' := by
  have HD := hid hd
  have HO := hid hok
  have HHH := hid hh
  have HA1 := hid ha1
  have HSL := hid hs
  obtain ⟨hp, hp'⟩ := Dom.cnt_pos hok
  have d0 : decide (hi < lo) = false := decide_eq_false (by omega)
  clear hd hh ha1 hok hs
  go_enter Try.func8, Try.ntmps8
  unfold dv
  go_wp2_with fail
  obtain ⟨W, hW⟩ : ∃ W, W = (w.alloc (.cells #[.int .u8 d.k, .int .i64 d.n, .slice a d.cuts.length c] 32)).alloc (.cells #[.int .u64 lo, .int .u64 hi] 44) := ⟨_, rfl⟩
  rw [← hW]
  have HK := hid (show Keep Nil w W from by rw [hW]; exact ((Keep.refl Nil w).alloc _).alloc _)
  have HB := hid (show DBox W w.heap.size d a c from by rw [hW]; exact (DBox.new w d a c).keep ((Keep.refl Nil _).alloc _))
  have HS := hid (show SBox W (w.heap.size + 1) lo hi from by rw [hW]; exact ⟨by have := heap_alloc_new (w.alloc (.cells #[.int .u8 d.k, .int .i64 d.n, .slice a d.cuts.length c] 32)) (.cells #[.int .u64 lo, .int .u64 hi] 44); rwa [World.size_alloc] at this⟩)
  clear hW
  refine (values_ok d HO.out (HD.out.keep HK.out).rd (by omega)).mono ?_
  rintro e w1 ⟨rfl, hk⟩
  obtain ⟨c0, c1, c2⟩ := (HB.out.keep hk).cells
  have HB1 := hid (HB.out.keep hk)
  have HS1 := hid (HS.out.keep hk)
  have HK1 := hid (HK.out.trans hk (fun _ _ h => h))
  clear hk HB HS HK
  obtain ⟨n, hn⟩ : ∃ n, n = d.cnt := ⟨_, rfl⟩
  have HN := hid hn
  rw [← hn] at hp hp'
  rw [← hn]
  clear hn
  go_wp2_with fail
  refine (long_any d false (decide_eq_false (by omega))).mono ?_
  rintro e w2 ⟨rfl, hk⟩
  obtain ⟨c0', c1', c2'⟩ := (HB1.out.keep hk).cells
  obtain ⟨s0, s1⟩ := (HS1.out.keep hk).cells
  have HB2 := hid (HB1.out.keep hk)
  have HS2 := hid (HS1.out.keep hk)
  have HK2 := hid (HK1.out.trans hk (fun _ _ h => h))
  clear hk HB1 HS1 HK1 c0 c1 c2
  obtain ⟨S, hS⟩ : ∃ S, S = d.img lo hi := ⟨_, rfl⟩
  obtain ⟨al, hal⟩ : ∃ al : Int, al = d.all := ⟨_, rfl⟩
  have HSB := hid hS
  have HAL := hid hal
  clear hS hal
  go_wp2_with fail
  refine (image_ok d HO.out (HD.out.keep HK2.out).rd (by omega) HD.out.hi lo hi HSL.out hl0 HHH.out).mono ?_
  rw [← HSB.out]
  rintro e w3 ⟨rfl, hk⟩
  obtain ⟨c0, c1, c2⟩ := (HB2.out.keep hk).cells
  have HB3 := hid (HB2.out.keep hk)
  have HS3 := hid (HS2.out.keep hk)
  have HK3 := hid (HK2.out.trans hk (fun _ _ h => h))
  clear hk HB2 HS2 HK2 c0' c1' c2' s0 s1
  go_wp2_with fail
  refine (all_ok d HO.out (HD.out.keep HK3.out).rd (by omega)).mono ?_
  rw [← HAL.out]
  rintro e w4 ⟨rfl, hk⟩
  have HB4 := hid (HB3.out.keep hk)
  have HS4 := hid (HS3.out.keep hk)
  have HK4 := hid (HK3.out.trans hk (fun _ _ h => h))
  clear hk HB3 HS3 HK3 c0 c1 c2
  have hS := HSB.out
  have hal := HAL.out
  have hSl : S < 18446744073709551616 := by rw [hS]; exact img_lt d HO.out _ _
  have e1 : (Go.bits .andNot .u64 (S : Int) al != 0) = false := by
    rw [hS, hal, andNot_zero (b := d.all) (img_lt d HO.out _ _) (bits_64 _ (Dom.cnt_pos HO.out).2) (fun i h => d.img_sub i h)]; rfl
  have e2 : ((S : Int) == 0) = false := beq_eq_false_iff_ne.2 (by have := d.img_ne HO.out HD.out.hi hl0 HSL.out HHH.out; rw [← hS] at this; omega)
  have e3 : decide ((n : Int) < 1) = false := decide_eq_false (by omega)
  have e4 : decide (64 < (n : Int)) = false := decide_eq_false (by omega)
  have hbit : ∀ v, v < n → S.testBit v = d.inImg lo hi v := fun v hv => by
    rw [hS, Dom.img, testBit_bits, decide_eq_true (by rw [← HN.out]; exact hv), Bool.true_and]
  have HBT := hid hbit
  clear hS hal hbit
  go_wp2
  go_loopw [12] (fun i wr => ∃ j : Nat, j ≤ n ∧ i = .int .i64 j ∧ Keep Nil w4 wr) (fun i _ => n - (intOf i).toNat)
  case atStart => exact ⟨0, Nat.zero_le _, rfl, Keep.refl _ _⟩
  case round =>
    obtain ⟨j, hj, rfl, hk5⟩ := hrel
    have K5 := hid hk5
    have hb := HB4.out.keep hk5
    obtain ⟨c0, c1, c2⟩ := hb.cells
    have hsb := HS4.out.keep hk5
    obtain ⟨s0, s1⟩ := hsb.cells
    have HB5 := hid hb
    have HS5 := hid hsb
    clear hk5 hb hsb
    by_cases hlt : j < n
    · have hbj := HBT.out j hlt
      have HBJ := hid hbj
      clear hbj
      go_wp2_with fail
      refine (Least_ok d HO.out (HD.out.keep (HK4.out.trans K5.out (fun _ _ h => h))).rd (by omega) HD.out.hi j (by rw [← HN.out]; exact hlt) lo hl0 (by have := HSL.out; have := HHH.out; omega)).mono ?_
      rintro e w5 ⟨rfl, hk⟩
      have K6 := hid (K5.out.trans hk (fun _ _ h => h))
      have hb := HB5.out.keep hk
      obtain ⟨c0', c1', c2'⟩ := hb.cells
      have hsb := HS5.out.keep hk
      obtain ⟨s0', s1'⟩ := hsb.cells
      have HB6 := hid hb
      have HS6 := hid hsb
      clear hk hb hsb c0 c1 c2 s0 s1 HB5 HS5
      cases hl : d.least j lo with
      | none =>
        have sh := shr_and (v := j) hSl false (HBJ.out.trans (inImg_none hl))
        clear hl
        rw [show leastV3 none = .tuple #[.int .u64 0, .bool false, .int .i64 0] from rfl]
        go_wp2
        go_roundw
        case rel => exact ⟨j + 1, by omega, by go_num, K6.out⟩
        case measure => simp [intOf]; omega
      | some y =>
        obtain ⟨g1, g2, g3, g4⟩ := d.least_some HO.out (by rw [← HN.out]; exact hlt) hl0 (by have := HSL.out; have := HHH.out; omega) HD.out.hi hl
        obtain ⟨b, hb⟩ : ∃ b, b = decide (y ≤ hi) := ⟨_, rfl⟩
        have sh := shr_and (v := j) hSl b (HBJ.out.trans ((inImg_some hl).trans hb.symm))
        have d1 : decide (y ≤ hi) = b := hb.symm
        have d2 : decide (y < lo) = false := decide_eq_false (by omega)
        have bb : (b != b) = false := by simp
        have y0 : 0 ≤ y := by omega
        have G2 := hid g2
        have G3 := hid g3
        have G4 := hid g4
        clear hl hb g2 g3 g4
        rw [show leastV3 (some y) = .tuple #[.int .u64 y, .bool true, .int .i64 0] from rfl]
        go_wp2_with fail
        refine (of_ok d HO.out (HD.out.keep (HK4.out.trans K6.out (fun _ _ h => h))).rd (by omega) y y0 G2.out).mono ?_
        rw [G3.out]
        rintro e w6 ⟨rfl, hk⟩
        have K7 := hid (K6.out.trans hk (fun _ _ h => h))
        have hb := HB6.out.keep hk
        obtain ⟨c0, c1, c2⟩ := hb.cells
        have hsb := HS6.out.keep hk
        obtain ⟨s0, s1⟩ := hsb.cells
        have e5 : ((j : Int) != (j : Int)) = false := by simp
        clear hk hb hsb c0' c1' c2' s0' s1' HB6 HS6 K6
        by_cases hkl : lo ≤ key
        · have d3 : decide (lo ≤ key) = true := decide_eq_true hkl
          by_cases hky : key < y
          · have d4 : decide (key < y) = true := decide_eq_true hky
            obtain ⟨z, hz⟩ : ∃ z : Int, z = d.of key := ⟨_, rfl⟩
            have d5 : (z == (j : Int)) = false := beq_eq_false_iff_ne.2 (by have := G4.out key hkl hky; omega)
            have HZ := hid hz
            clear hkl hky hz
            go_wp2_with fail
            refine (of_ok d HO.out (HD.out.keep (HK4.out.trans K7.out (fun _ _ h => h))).rd (by omega) key ha0 HA1.out).mono ?_
            rw [← HZ.out]
            rintro e w7 ⟨rfl, hk⟩
            have K8 := hid (K7.out.trans hk (fun _ _ h => h))
            clear hk
            go_wp2
            go_roundw
            case rel => exact ⟨j + 1, by omega, by go_num, K8.out⟩
            case measure => simp [intOf]; omega
          · have d4 : decide (key < y) = false := decide_eq_false hky
            clear hkl hky
            go_wp2
            go_roundw
            case rel => exact ⟨j + 1, by omega, by go_num, K7.out⟩
            case measure => simp [intOf]; omega
        · have d3 : decide (lo ≤ key) = false := decide_eq_false hkl
          clear hkl
          go_wp2
          go_roundw
          case rel => exact ⟨j + 1, by omega, by go_num, K7.out⟩
          case measure => simp [intOf]; omega
    · obtain rfl : j = n := by omega
      by_cases hkl : lo ≤ key
      · have d3 : decide (lo ≤ key) = true := decide_eq_true hkl
        by_cases hkh : key ≤ hi
        · have d4 : decide (key ≤ hi) = true := decide_eq_true hkh
          obtain ⟨u, hu⟩ : ∃ u, u = d.of key := ⟨_, rfl⟩
          have hun : u < j := by rw [hu, HN.out]; exact d.of_lt HO.out key
          have sh := shr_and (v := u) hSl true (by rw [HSB.out]; exact (d.img_bit HO.out HD.out.hi hl0 (by have := HSL.out; have := HHH.out; omega) HHH.out).2 ⟨key, hkl, hkh, hu.symm⟩)
          have d5 : decide (u < j) = true := decide_eq_true hun
          have d6 : decide ((0 : Int) ≤ (u : Int)) = true := decide_eq_true (by omega)
          have HU := hid hu
          clear hu hkl hkh
          go_wp2_with fail
          refine (of_ok d HO.out (HD.out.keep (HK4.out.trans K5.out (fun _ _ h => h))).rd (by omega) key ha0 HA1.out).mono ?_
          rw [← HU.out]
          rintro e w6 ⟨rfl, hk⟩
          have K6 := hid (K5.out.trans hk (fun _ _ h => h))
          clear hk
          go_wp2_with fail
          refine (known_any _).mono ?_
          rintro e w7 ⟨rfl, hk⟩
          have K7 := hid (HK4.out.trans (K6.out.trans hk (fun _ _ h => h)) (fun _ _ h => h))
          clear hk
          go_wp2
          go_ret
          exact ⟨rfl, K7.out⟩
        · have d4 : decide (key ≤ hi) = false := decide_eq_false hkh
          clear hkl hkh
          go_wp2_with fail
          refine (known_any _).mono ?_
          rintro e w7 ⟨rfl, hk⟩
          have K7 := hid (HK4.out.trans (K5.out.trans hk (fun _ _ h => h)) (fun _ _ h => h))
          clear hk
          go_wp2
          go_ret
          exact ⟨rfl, K7.out⟩
      · have d3 : decide (lo ≤ key) = false := decide_eq_false hkl
        clear hkl
        go_wp2_with fail
        refine (known_any _).mono ?_
        rintro e w7 ⟨rfl, hk⟩
        have K7 := hid (HK4.out.trans (K5.out.trans hk (fun _ _ h => h)) (fun _ _ h => h))
        clear hk
        go_wp2
        go_ret
        exact ⟨rfl, K7.out⟩

set_option maxRecDepth 100000 in
set_option maxHeartbeats 2000000 in
theorem image_bad' (w : World) (d : Dom) (a : Option Addr) (c : Nat) (hd : DomIn w d a c) (lo hi : Int) (hno : ¬ d.ok) (key : Int) :
    Calls Try.prog 8 #[dv d a c, .agg #[.int .u64 lo, .int .u64 hi], .int .u64 key] w fun e w' => e = .returned (.bool true) ∧ Keep Nil w w' := by
  have HD := hid hd
  have HO := hid hno
  clear hd hno
  go_enter Try.func8, Try.ntmps8
  unfold dv
  go_wp2_with fail
  obtain ⟨W, hW⟩ : ∃ W, W = (w.alloc (.cells #[.int .u8 d.k, .int .i64 d.n, .slice a d.cuts.length c] 32)).alloc (.cells #[.int .u64 lo, .int .u64 hi] 44) := ⟨_, rfl⟩
  rw [← hW]
  have HK := hid (show Keep Nil w W from by rw [hW]; exact ((Keep.refl Nil w).alloc _).alloc _)
  have HB := hid (show DBox W w.heap.size d a c from by rw [hW]; exact (DBox.new w d a c).keep ((Keep.refl Nil _).alloc _))
  clear hW
  refine (values_bad_all d HO.out (HD.out.keep HK.out).rd).mono ?_
  rintro e w1 ⟨rfl, hk⟩
  obtain ⟨c0, c1, c2⟩ := (HB.out.keep hk).cells
  have HK1 := hid (HK.out.trans hk (fun _ _ h => h))
  clear hk HB HK
  go_wp2_with fail
  refine (long_any d _ rfl).mono ?_
  generalize decide (200 < (d.cuts.length : Int)) = b
  cases b
  all_goals
    rintro e w2 ⟨rfl, hk⟩
    have HK2 := hid (HK1.out.trans hk (fun _ _ h => h))
    clear hk c0 c1 c2
    go_wp2_with fail
    refine (known_any _).mono ?_
    rintro e w3 ⟨rfl, hk⟩
    have HK3 := hid (HK2.out.trans hk (fun _ _ h => h))
    clear hk
    go_wp2
    go_ret
    exact ⟨rfl, HK3.out⟩

set_option maxRecDepth 100000 in
set_option maxHeartbeats 2000000 in
theorem image_span' (w : World) (d : Dom) (a : Option Addr) (c : Nat) (hd : DomIn w d a c) (hm : d.cuts.length ≤ 200) (lo hi : Int) (hok : d.ok) (hs : hi < lo) (key : Int) :
    Calls Try.prog 8 #[dv d a c, .agg #[.int .u64 lo, .int .u64 hi], .int .u64 key] w fun e w' => e = .returned (.bool true) ∧ Keep Nil w w' := by
  have HD := hid hd
  have HO := hid hok
  have d0 : decide (hi < lo) = true := decide_eq_true hs
  clear hd hok hs
  go_enter Try.func8, Try.ntmps8
  unfold dv
  go_wp2_with fail
  obtain ⟨W, hW⟩ : ∃ W, W = (w.alloc (.cells #[.int .u8 d.k, .int .i64 d.n, .slice a d.cuts.length c] 32)).alloc (.cells #[.int .u64 lo, .int .u64 hi] 44) := ⟨_, rfl⟩
  rw [← hW]
  have HK := hid (show Keep Nil w W from by rw [hW]; exact ((Keep.refl Nil w).alloc _).alloc _)
  have HB := hid (show DBox W w.heap.size d a c from by rw [hW]; exact (DBox.new w d a c).keep ((Keep.refl Nil _).alloc _))
  have HS := hid (show SBox W (w.heap.size + 1) lo hi from by rw [hW]; exact ⟨by have := heap_alloc_new (w.alloc (.cells #[.int .u8 d.k, .int .i64 d.n, .slice a d.cuts.length c] 32)) (.cells #[.int .u64 lo, .int .u64 hi] 44); rwa [World.size_alloc] at this⟩)
  clear hW
  refine (values_ok d HO.out (HD.out.keep HK.out).rd (by omega)).mono ?_
  rintro e w1 ⟨rfl, hk⟩
  obtain ⟨c0, c1, c2⟩ := (HB.out.keep hk).cells
  have HS1 := hid (HS.out.keep hk)
  have HK1 := hid (HK.out.trans hk (fun _ _ h => h))
  clear hk HB HK HS
  go_wp2_with fail
  refine (long_any d false (decide_eq_false (by omega))).mono ?_
  rintro e w2 ⟨rfl, hk⟩
  obtain ⟨s0, s1⟩ := (HS1.out.keep hk).cells
  have HK2 := hid (HK1.out.trans hk (fun _ _ h => h))
  clear hk c0 c1 c2
  go_wp2_with fail
  refine (known_any _).mono ?_
  rintro e w3 ⟨rfl, hk⟩
  have HK3 := hid (HK2.out.trans hk (fun _ _ h => h))
  clear hk
  go_wp2
  go_ret
  exact ⟨rfl, HK3.out⟩

theorem ok_short {d : Dom} (h : d.ok) : d.cuts.length ≤ 63 := by
  rcases h with ⟨-, -, h⟩ | ⟨-, -, h⟩ | ⟨-, -, h, -⟩
  · simp [h]
  · simp [h]
  · exact h.2

theorem walk_image (w : World) (d : Dom) (a : Option Addr) (c : Nat) (hd : DomIn w d a c) (lo hi : Int) (hl0 : 0 ≤ lo) (hh : hi ≤ topU) (key : Int) (ha0 : 0 ≤ key) (ha1 : key ≤ topU) :
    Calls Try.prog 8 #[dv d a c, .agg #[.int .u64 lo, .int .u64 hi], .int .u64 key] w fun e w' => e = .returned (.bool true) ∧ Keep Nil w w' := by
  by_cases hok : d.ok
  · have := ok_short hok
    by_cases hs : hi < lo
    · exact image_span' w d a c hd (by omega) lo hi hok hs key
    · exact image_core w d a c hd (by omega) hok lo hi hl0 (by omega) hh key ha0 ha1
  · exact image_bad' w d a c hd lo hi hok key
end Go.Proofs.Ytfpobagkananeaa
