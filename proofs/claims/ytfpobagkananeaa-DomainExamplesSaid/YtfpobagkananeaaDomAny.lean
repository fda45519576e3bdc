/- domain and the reference's: contracts at every map; the reference's Image. -/
import Derived.Test.YtfpobagkananeaaDomRef2
namespace Go.Proofs.Ytfpobagkananeaa
open Go.RowKit Go.Lf

/-- What the reference's Image returns of a valid map. -/
def rimgV (d : Dom) (lo hi : Int) : Value := if hi < lo then .tuple #[.int .u64 0, .int .i64 13] else .tuple #[.int .u64 (d.img lo hi), .int .i64 0]

section
variable {a : Option Addr} {c : Nat} {w : World}

set_option maxHeartbeats 400000 in
theorem rimage_bad (d : Dom) (h : ¬ d.ok) (hrd : Rd w 1 (.slice a d.cuts.length c) d.cuts.length (u64s d.cuts)) (hm : d.cuts.length ≤ 1000000) (hn : ∀ y ∈ d.cuts, 0 ≤ y) (lo hi : Int) :
    Calls Try.prog 27 #[dv d a c, .agg #[.int .u64 lo, .int .u64 hi]] w fun e w' => e = .returned (.tuple #[.int .u64 0, .int .i64 2]) ∧ Keep Nil w w' := by
  have HD := hid hrd
  have HO := hid h
  have HN := hid hn
  clear hrd h hn
  go_enter Try.func27, Try.ntmps27
  unfold dv
  go_wp2_with fail
  have k0 := hid (((Keep.refl Nil w).alloc (.cells #[.int .u8 d.k, .int .i64 d.n, .slice a d.cuts.length c] 32 (0, 0))).alloc (.cells #[.int .u64 lo, .int .u64 hi] 44 (0, 0)))
  refine (rvalues_bad d HO.out (rd_keep HD.out k0.out (fun _ _ h => h)) hm HN.out).mono ?_
  rintro e w1 ⟨rfl, hk⟩
  have HK := hid (k0.out.trans hk (fun _ _ h => h))
  clear hk
  go_wp2
  go_ret2
  exact ⟨rfl, HK.out⟩

set_option maxHeartbeats 2000000 in
theorem rimage_ok (d : Dom) (h : d.ok) (hrd : Rd w 1 (.slice a d.cuts.length c) d.cuts.length (u64s d.cuts)) (hm : d.cuts.length ≤ 1000000) (hn : ∀ y ∈ d.cuts, 0 ≤ y) (hc : ∀ y ∈ d.cuts, y ≤ topU) (lo hi : Int) (hl0 : 0 ≤ lo) (hl1 : lo ≤ topU) :
    Calls Try.prog 27 #[dv d a c, .agg #[.int .u64 lo, .int .u64 hi]] w fun e w' => e = .returned (rimgV d lo hi) ∧ Keep Nil w w' := by
  have HD := hid hrd
  have HO := hid h
  have HN := hid hn
  have HC := hid hc
  obtain ⟨hp, hp'⟩ := Dom.cnt_pos h
  have HL1 := hid hl1
  clear hrd h hn hc hl1
  go_enter Try.func27, Try.ntmps27
  unfold dv
  go_wp2_with fail
  have k0 := hid (((Keep.refl Nil w).alloc (.cells #[.int .u8 d.k, .int .i64 d.n, .slice a d.cuts.length c] 32 (0, 0))).alloc (.cells #[.int .u64 lo, .int .u64 hi] 44 (0, 0)))
  refine (rvalues_ok d HO.out (rd_keep HD.out k0.out (fun _ _ h => h)) hm HN.out).mono ?_
  rintro e w1 ⟨rfl, hk⟩
  have hb0 : w1.heap[w.heap.size]? = some (.cells #[.int .u8 d.k, .int .i64 d.n, .slice a d.cuts.length c] 32 (0, 0)) := hk.at (alloc_old (heap_alloc_new w _) _) (fun h => h)
  have hb : w1.heap[w.heap.size + 1]? = some (.cells #[.int .u64 lo, .int .u64 hi] 44 (0, 0)) := hk.at (by have := heap_alloc_new (w.alloc (.cells #[.int .u8 d.k, .int .i64 d.n, .slice a d.cuts.length c] 32 (0, 0))) (.cells #[.int .u64 lo, .int .u64 hi] 44 (0, 0)); rwa [World.size_alloc] at this) (fun h => h)
  have s0 : w1.cell? ⟨w.heap.size + 1, 0, none⟩ = some (.int .u64 lo) := by rw [cell_of hb]; rfl
  have s1 : w1.cell? ⟨w.heap.size + 1, 1, none⟩ = some (.int .u64 hi) := by rw [cell_of hb]; rfl
  have HK := hid (k0.out.trans hk (fun _ _ h => h))
  have HB0 := hid hb0
  have HB := hid hb
  clear hk hb hb0
  by_cases hs : hi < lo
  · have d0 : decide (hi < lo) = true := decide_eq_true hs
    have HSS := hid hs
    clear hs
    go_wp2
    go_ret2
    exact ⟨by unfold rimgV; rw [if_pos HSS.out]; rfl, HK.out⟩
  · have d0 : decide (hi < lo) = false := decide_eq_false hs
    have hlh : lo ≤ hi := by omega
    have himg := hid (show d.img lo hi = bset (d.inImg lo hi) d.cnt from rfl)
    obtain ⟨m, hmc⟩ : ∃ m, m = d.cnt := ⟨_, rfl⟩
    have HM := hid hmc
    rw [← hmc] at hp hp' himg ⊢
    clear hmc hs
    go_wp2
    go_loopw [8, 9] (fun s i wr => ∃ j : Nat, j ≤ m ∧ i = .int .i64 j ∧ s = .int .u64 (bset (d.inImg lo hi) j : Nat) ∧ Keep Nil w1 wr) (fun _ i _ => m - (intOf i).toNat)
    case atStart => exact ⟨0, Nat.zero_le _, rfl, rfl, Keep.refl _ _⟩
    case round =>
      obtain ⟨j, hj, rfl, rfl, hk4⟩ := hrel
      have K4 := hid hk4
      clear hk4
      by_cases hlt : j < m
      · have hb := bits_64 (d.inImg lo hi) (k := j) (by omega)
        have so := hid (or_pow hb (show j < 64 by omega))
        have hbit := hid (fun w => @bit_any w j (by omega))
        have hbw := K4.out.at HB0.out (fun h => h)
        have hbsw := K4.out.at HB.out (fun h => h)
        have c0 : wr.cell? ⟨w.heap.size, 0, none⟩ = some (.int .u8 d.k) := by rw [cell_of hbw]; rfl
        have c1 : wr.cell? ⟨w.heap.size, 1, none⟩ = some (.int .i64 d.n) := by rw [cell_of hbw]; rfl
        have c2 : wr.cell? ⟨w.heap.size, 2, none⟩ = some (.slice a d.cuts.length c) := by rw [cell_of hbw]; rfl
        have s0' : wr.cell? ⟨w.heap.size + 1, 0, none⟩ = some (.int .u64 lo) := by rw [cell_of hbsw]; rfl
        have HBS4 := hid hbsw
        clear hbw hbsw s0 s1
        go_wp2_with fail
        refine (rLeast_ok d HO.out (rd_keep HD.out (HK.out.trans K4.out (fun _ _ h => h)) (fun _ _ h => h)) hm HN.out HC.out j (by rw [← HM.out]; exact hlt) lo hl0 HL1.out).mono ?_
        rintro e w4 ⟨rfl, hk⟩
        have hbsx := hk.at HBS4.out (fun h => h)
        have s1' : w4.cell? ⟨w.heap.size + 1, 1, none⟩ = some (.int .u64 hi) := by rw [cell_of hbsx]; rfl
        have K5 := hid (K4.out.trans hk (fun _ _ h => h))
        clear hk hbsx c0 c1 c2 s0'
        cases hl : d.least j lo with
        | none =>
          have nx := hid (show bset (d.inImg lo hi) (j + 1) = bset (d.inImg lo hi) j by show bset _ j ||| _ = _; rw [inImg_none hl]; simp)
          have HL := hid hl
          clear hl
          rw [show leastV3 none = .tuple #[.int .u64 0, .bool false, .int .i64 0] from rfl]
          generalize bset (d.inImg lo hi) j = z at *
          go_wp2
          go_roundw
          case rel => exact ⟨j + 1, by omega, by go_num, by rw [nx.out], K5.out⟩
          case measure => simp [intOf]; omega
        | some y =>
          rw [show leastV3 (some y) = .tuple #[.int .u64 y, .bool true, .int .i64 0] from rfl]
          by_cases hy : y ≤ hi
          · have nx := hid (show bset (d.inImg lo hi) (j + 1) = bset (d.inImg lo hi) j ||| 2 ^ j by show bset _ j ||| _ = _; rw [inImg_some hl, if_pos (by simpa using hy)])
            have d1 : decide (y ≤ hi) = true := decide_eq_true hy
            have HL := hid hl
            clear hl hy
            generalize bset (d.inImg lo hi) j = z at *
            generalize 2 ^ j = p at *
            go_wp2_with (go_at_call 37; refine (hbit.out _).mono ?_; rintro e w' ⟨rfl, rfl⟩)
            go_roundw
            case rel => exact ⟨j + 1, by omega, by go_num, by rw [nx.out, ← so.out], K5.out⟩
            case measure => simp [intOf]; omega
          · have nx := hid (show bset (d.inImg lo hi) (j + 1) = bset (d.inImg lo hi) j by show bset _ j ||| _ = _; rw [inImg_some hl, if_neg (by simpa using hy)]; simp)
            have d1 : decide (y ≤ hi) = false := decide_eq_false hy
            have HL := hid hl
            clear hl hy
            generalize bset (d.inImg lo hi) j = z at *
            go_wp2
            go_roundw
            case rel => exact ⟨j + 1, by omega, by go_num, by rw [nx.out], K5.out⟩
            case measure => simp [intOf]; omega
      · obtain rfl : j = m := by omega
        go_wp2
        go_ret2
        exact ⟨by unfold rimgV; rw [if_neg (by omega), himg.out]; rfl, HK.out.trans K4.out (fun _ _ h => h)⟩

theorem values_any (d : Dom) (hrd : Rd w 1 (.slice a d.cuts.length c) d.cuts.length (u64s d.cuts)) (hm : d.cuts.length ≤ 1000000) (hn : ∀ y ∈ d.cuts, 0 ≤ y) (hc : ∀ y ∈ d.cuts, y ≤ topU) :
    Calls Try.prog 16 #[dv d a c] w fun e w' => e = .returned (.tuple #[.int .i64 d.cntE, .int .i64 d.err]) ∧ Keep Nil w w' := by
  have _ := hn
  have _ := hc
  by_cases h : d.ok
  · rw [Dom.err_ok h, show d.cntE = d.cnt from if_pos h]; exact values_ok d h hrd hm
  · rw [Dom.err_bad h, show d.cntE = 0 from if_neg h]; exact values_bad d h hrd hm
theorem of_any (d : Dom) (hrd : Rd w 1 (.slice a d.cuts.length c) d.cuts.length (u64s d.cuts)) (hm : d.cuts.length ≤ 1000000) (hn : ∀ y ∈ d.cuts, 0 ≤ y) (hc : ∀ y ∈ d.cuts, y ≤ topU) (key : Int) (k0 : 0 ≤ key) (k1 : key ≤ topU) :
    Calls Try.prog 18 #[dv d a c, .int .u64 key] w fun e w' => e = .returned (.tuple #[.int .i64 (d.ofE key), .int .i64 d.err]) ∧ Keep Nil w w' := by
  have _ := hn
  have _ := hc
  by_cases h : d.ok
  · rw [Dom.err_ok h, show d.ofE key = d.of key from if_pos h]; exact of_ok d h hrd hm key k0 k1
  · rw [Dom.err_bad h, show d.ofE key = 0 from if_neg h]; exact of_bad d h hrd hm key
theorem all_any (d : Dom) (hrd : Rd w 1 (.slice a d.cuts.length c) d.cuts.length (u64s d.cuts)) (hm : d.cuts.length ≤ 1000000) (hn : ∀ y ∈ d.cuts, 0 ≤ y) (hc : ∀ y ∈ d.cuts, y ≤ topU) :
    Calls Try.prog 20 #[dv d a c] w fun e w' => e = .returned (.tuple #[.int .u64 d.allE, .int .i64 d.err]) ∧ Keep Nil w w' := by
  have _ := hn
  have _ := hc
  by_cases h : d.ok
  · rw [Dom.err_ok h, show d.allE = d.all from if_pos h]; exact all_ok d h hrd hm
  · rw [Dom.err_bad h, show d.allE = 0 from if_neg h]; exact all_bad d h hrd hm
theorem Least_any (d : Dom) (hrd : Rd w 1 (.slice a d.cuts.length c) d.cuts.length (u64s d.cuts)) (hm : d.cuts.length ≤ 1000000) (hn : ∀ y ∈ d.cuts, 0 ≤ y) (hc : ∀ y ∈ d.cuts, y ≤ topU) (v x : Int) (hx0 : 0 ≤ x) (hx1 : x ≤ topU) :
    Calls Try.prog 24 #[dv d a c, .int .i64 v, .int .u64 x] w fun e w' => e = .returned (leastT d v x) ∧ Keep Nil w w' := by
  have _ := hn
  by_cases h : d.ok
  · by_cases hv : v < 0 ∨ (d.cnt : Int) ≤ v
    · rw [leastT_range h hv]; exact Least_range d h hrd hm v x hv
    · obtain ⟨n, rfl⟩ := Int.eq_ofNat_of_zero_le (show 0 ≤ v by omega)
      rw [show leastT d (n : Int) x = leastV3 (d.least n x) from leastT_ok h (by omega) x]; exact Least_ok d h hrd hm hc n (by omega) x hx0 hx1
  · rw [leastT_bad h]; exact Least_bad d h hrd hm v x
theorem image_any (d : Dom) (hrd : Rd w 1 (.slice a d.cuts.length c) d.cuts.length (u64s d.cuts)) (hm : d.cuts.length ≤ 1000000) (hn : ∀ y ∈ d.cuts, 0 ≤ y) (hc : ∀ y ∈ d.cuts, y ≤ topU) (lo hi : Int) (hl0 : 0 ≤ lo) (hl1 : lo ≤ topU) (hh : hi ≤ topU) :
    Calls Try.prog 26 #[dv d a c, .agg #[.int .u64 lo, .int .u64 hi]] w fun e w' => e = .returned (.tuple #[.int .u64 (d.imgE lo hi), .int .i64 (d.imgX lo hi)]) ∧ Keep Nil w w' := by
  have _ := hn
  have _ := hl1
  have _ := hh
  unfold Dom.imgE Dom.imgX
  by_cases h : d.ok
  · by_cases hs : hi < lo
    · rw [if_neg (by omega), if_pos h, if_pos hs]; exact image_span d h hrd hm lo hi hs
    · rw [if_pos ⟨h, by omega⟩, if_pos h, if_neg hs]; exact image_ok d h hrd hm hc lo hi (by omega) hl0 hh
  · rw [if_neg (fun h' => h h'.1), if_neg h]; exact image_bad d h hrd hm lo hi

theorem rvalues_any (d : Dom) (hrd : Rd w 1 (.slice a d.cuts.length c) d.cuts.length (u64s d.cuts)) (hm : d.cuts.length ≤ 1000000) (hn : ∀ y ∈ d.cuts, 0 ≤ y) (hc : ∀ y ∈ d.cuts, y ≤ topU) :
    Calls Try.prog 17 #[dv d a c] w fun e w' => e = .returned (.tuple #[.int .i64 d.cntE, .int .i64 d.err]) ∧ Keep Nil w w' := by
  have _ := hn
  have _ := hc
  by_cases h : d.ok
  · rw [Dom.err_ok h, show d.cntE = d.cnt from if_pos h]; exact rvalues_ok d h hrd hm hn
  · rw [Dom.err_bad h, show d.cntE = 0 from if_neg h]; exact rvalues_bad d h hrd hm hn
theorem rof_any (d : Dom) (hrd : Rd w 1 (.slice a d.cuts.length c) d.cuts.length (u64s d.cuts)) (hm : d.cuts.length ≤ 1000000) (hn : ∀ y ∈ d.cuts, 0 ≤ y) (hc : ∀ y ∈ d.cuts, y ≤ topU) (key : Int) (k0 : 0 ≤ key) (k1 : key ≤ topU) :
    Calls Try.prog 19 #[dv d a c, .int .u64 key] w fun e w' => e = .returned (.tuple #[.int .i64 (d.ofE key), .int .i64 d.err]) ∧ Keep Nil w w' := by
  have _ := hn
  have _ := hc
  by_cases h : d.ok
  · rw [Dom.err_ok h, show d.ofE key = d.of key from if_pos h]; exact rof_ok d h hrd hm hn key k0 k1
  · rw [Dom.err_bad h, show d.ofE key = 0 from if_neg h]; exact rof_bad d h hrd hm hn key
theorem rall_any (d : Dom) (hrd : Rd w 1 (.slice a d.cuts.length c) d.cuts.length (u64s d.cuts)) (hm : d.cuts.length ≤ 1000000) (hn : ∀ y ∈ d.cuts, 0 ≤ y) (hc : ∀ y ∈ d.cuts, y ≤ topU) :
    Calls Try.prog 21 #[dv d a c] w fun e w' => e = .returned (.tuple #[.int .u64 d.allE, .int .i64 d.err]) ∧ Keep Nil w w' := by
  have _ := hn
  have _ := hc
  by_cases h : d.ok
  · rw [Dom.err_ok h, show d.allE = d.all from if_pos h]; exact rall_ok d h hrd hm hn
  · rw [Dom.err_bad h, show d.allE = 0 from if_neg h]; exact rall_bad d h hrd hm hn
theorem rLeast_any (d : Dom) (hrd : Rd w 1 (.slice a d.cuts.length c) d.cuts.length (u64s d.cuts)) (hm : d.cuts.length ≤ 1000000) (hn : ∀ y ∈ d.cuts, 0 ≤ y) (hc : ∀ y ∈ d.cuts, y ≤ topU) (v x : Int) (hx0 : 0 ≤ x) (hx1 : x ≤ topU) :
    Calls Try.prog 25 #[dv d a c, .int .i64 v, .int .u64 x] w fun e w' => e = .returned (leastT d v x) ∧ Keep Nil w w' := by
  have _ := hn
  by_cases h : d.ok
  · by_cases hv : v < 0 ∨ (d.cnt : Int) ≤ v
    · rw [leastT_range h hv]; exact rLeast_range d h hrd hm hn v x hv
    · obtain ⟨n, rfl⟩ := Int.eq_ofNat_of_zero_le (show 0 ≤ v by omega)
      rw [show leastT d (n : Int) x = leastV3 (d.least n x) from leastT_ok h (by omega) x]; exact rLeast_ok d h hrd hm hn hc n (by omega) x hx0 hx1
  · rw [leastT_bad h]; exact rLeast_bad d h hrd hm hn v x
theorem rimage_any (d : Dom) (hrd : Rd w 1 (.slice a d.cuts.length c) d.cuts.length (u64s d.cuts)) (hm : d.cuts.length ≤ 1000000) (hn : ∀ y ∈ d.cuts, 0 ≤ y) (hc : ∀ y ∈ d.cuts, y ≤ topU) (lo hi : Int) (hl0 : 0 ≤ lo) (hl1 : lo ≤ topU) (hh : hi ≤ topU) :
    Calls Try.prog 27 #[dv d a c, .agg #[.int .u64 lo, .int .u64 hi]] w fun e w' => e = .returned (.tuple #[.int .u64 (d.imgE lo hi), .int .i64 (d.imgX lo hi)]) ∧ Keep Nil w w' := by
  have _ := hn
  have _ := hl1
  have _ := hh
  unfold Dom.imgE Dom.imgX
  by_cases h : d.ok
  · by_cases hs : hi < lo
    · rw [if_neg (by omega), if_pos h, if_pos hs]; have := rimage_ok d h hrd hm hn hc lo hi hl0 hl1; rwa [show rimgV d lo hi = _ from if_pos hs] at this
    · rw [if_pos ⟨h, by omega⟩, if_pos h, if_neg hs]; have := rimage_ok d h hrd hm hn hc lo hi hl0 hl1; rwa [show rimgV d lo hi = _ from if_neg hs] at this
  · rw [if_neg (fun h' => h h'.1), if_neg h]; exact rimage_bad d h hrd hm hn lo hi

end
end Go.Proofs.Ytfpobagkananeaa
