/- The reference's domain: Least, Image: contracts. And contracts at every map. -/
import Derived.Test.YtfpobagkananeaaDomRef
namespace Go.Proofs.Ytfpobagkananeaa
open Go.RowKit Go.Lf

/-- What Least returns. -/
noncomputable def leastT (d : Dom) (v x : Int) : Value := .tuple #[.int .u64 ((d.leastE v x).getD 0), .bool (d.leastE v x).isSome, .int .i64 (d.leastX v)]

theorem leastT_ok {d : Dom} (h : d.ok) {v : Nat} (hv : v < d.cnt) (x : Int) : leastT d v x = leastV3 (d.least v x) := by
  unfold leastT Dom.leastE Dom.leastX
  rw [if_pos ⟨h, by omega, by omega⟩, if_pos h, if_neg (by omega), Int.toNat_natCast]
  cases d.least v x <;> rfl
theorem leastT_bad {d : Dom} (h : ¬ d.ok) (v x : Int) : leastT d v x = .tuple #[.int .u64 0, .bool false, .int .i64 2] := by
  unfold leastT Dom.leastE Dom.leastX
  rw [if_neg (fun h' => h h'.1), if_neg h]
  rfl
theorem leastT_range {d : Dom} (h : d.ok) {v : Int} (hv : v < 0 ∨ (d.cnt : Int) ≤ v) (x : Int) : leastT d v x = .tuple #[.int .u64 0, .bool false, .int .i64 3] := by
  unfold leastT Dom.leastE Dom.leastX
  rw [if_neg (by omega), if_pos h, if_pos hv]
  rfl

section
variable {a : Option Addr} {c : Nat} {w : World}

set_option maxHeartbeats 2000000 in
theorem rcut_any (cuts : List Int) (h1 : 1 ≤ cuts.length) (ha : AscTo cuts cuts.length) (hrd : Rd w 1 (.slice a cuts.length c) cuts.length (u64s cuts)) (hm : cuts.length ≤ 1000000) (v : Nat) (hv : v ≤ cuts.length) (x : Int) (hx0 : 0 ≤ x) (hx1 : x ≤ topU) :
    Calls Try.prog 40 #[.slice a cuts.length c, .int .i64 v, .int .u64 x] w fun e w' => e = .returned (leastV3 (if v < cuts.length ∧ gcut cuts v ≤ x then none else some (if x < prv cuts v then prv cuts v else x))) ∧ w = w' := by
  obtain ⟨r, hr⟩ : ∃ r, r = (if v < cuts.length ∧ gcut cuts v ≤ x then none else some (if x < prv cuts v then prv cuts v else x)) := ⟨_, rfl⟩
  rw [← hr]
  unfold topU at hx1
  obtain ⟨b, off, rfl, hcell⟩ := rd_cut hrd (i := 0) (by omega)
  clear hrd
  have HR := hid hr
  clear hr
  rcases Nat.eq_zero_or_pos v with h0 | h0
  · subst h0
    have hc1 : w.cell? ⟨b, off, none⟩ = some (.int .u64 (gcut cuts 0)) := hcell 0 (by omega)
    have d1 : decide (0 < cuts.length) = true := decide_eq_true (by omega)
    have hpl : 0 < cuts.length := by omega
    clear hcell hv
    by_cases hle : gcut cuts 0 ≤ x
    · have d2 : decide (gcut cuts 0 ≤ x) = true := decide_eq_true hle
      have hv := hid (HR.out.trans (if_pos ⟨hpl, hle⟩))
      clear hle ha
      go_enter Try.func40, Try.ntmps40
      go_wp2
      go_ret3
      rw [hv.out]
      exact ⟨rfl, rfl⟩
    · have d2 : decide (gcut cuts 0 ≤ x) = false := decide_eq_false hle
      have hv := hid (HR.out.trans ((if_neg (by omega)).trans (by rw [if_neg (by rw [prv_zero]; omega)])))
      clear hle ha
      go_enter Try.func40, Try.ntmps40
      go_wp2
      go_ret3
      rw [hv.out]
      exact ⟨rfl, rfl⟩
  · obtain ⟨u, rfl⟩ : ∃ u, v = u + 1 := ⟨v - 1, by omega⟩
    have hcu := hcell u (by omega)
    have hp : prv cuts (u + 1) = gcut cuts u := prv_succ _ _
    rw [hp] at HR
    have hul : u < cuts.length := by omega
    clear hp h0
    by_cases hlt : u + 1 < cuts.length
    · have hcv := hcell (u + 1) hlt
      have hinc : gcut cuts u < gcut cuts (u + 1) := by have := ha (u + 1) hlt; rwa [prv_succ] at this
      clear hcell hv ha
      by_cases hxu : x < gcut cuts u
      · have d1 : decide (x < gcut cuts u) = true := decide_eq_true hxu
        have d2 : decide (gcut cuts (u + 1) ≤ gcut cuts u) = false := decide_eq_false (by omega)
        have hv := hid (HR.out.trans ((if_neg (by omega)).trans (by rw [if_pos hxu])))
        clear hxu hinc
        go_enter Try.func40, Try.ntmps40
        go_wp2
        go_ret3
        rw [hv.out]
        exact ⟨rfl, rfl⟩
      · have d1 : decide (x < gcut cuts u) = false := decide_eq_false hxu
        by_cases hle : gcut cuts (u + 1) ≤ x
        · have d2 : decide (gcut cuts (u + 1) ≤ x) = true := decide_eq_true hle
          have hv := hid (HR.out.trans (if_pos ⟨hlt, hle⟩))
          clear hle hxu hinc
          go_enter Try.func40, Try.ntmps40
          go_wp2
          go_ret3
          rw [hv.out]
          exact ⟨rfl, rfl⟩
        · have d2 : decide (gcut cuts (u + 1) ≤ x) = false := decide_eq_false hle
          have hv := hid (HR.out.trans ((if_neg (by omega)).trans (by rw [if_neg hxu])))
          clear hle hxu hinc
          go_enter Try.func40, Try.ntmps40
          go_wp2
          go_ret3
          rw [hv.out]
          exact ⟨rfl, rfl⟩
    · have hn : ¬ u + 1 < cuts.length := hlt
      clear hcell hv ha
      by_cases hxu : x < gcut cuts u
      · have d1 : decide (x < gcut cuts u) = true := decide_eq_true hxu
        have hv := hid (HR.out.trans ((if_neg (by omega)).trans (by rw [if_pos hxu])))
        clear hxu
        go_enter Try.func40, Try.ntmps40
        go_wp2
        go_ret3
        rw [hv.out]
        exact ⟨rfl, rfl⟩
      · have d1 : decide (x < gcut cuts u) = false := decide_eq_false hxu
        have hv := hid (HR.out.trans ((if_neg (by omega)).trans (by rw [if_neg hxu])))
        clear hxu
        go_enter Try.func40, Try.ntmps40
        go_wp2
        go_ret3
        rw [hv.out]
        exact ⟨rfl, rfl⟩

set_option maxHeartbeats 400000 in
theorem rLeast_bad (d : Dom) (h : ¬ d.ok) (hrd : Rd w 1 (.slice a d.cuts.length c) d.cuts.length (u64s d.cuts)) (hm : d.cuts.length ≤ 1000000) (hn : ∀ y ∈ d.cuts, 0 ≤ y) (v x : Int) :
    Calls Try.prog 25 #[dv d a c, .int .i64 v, .int .u64 x] w fun e w' => e = .returned (.tuple #[.int .u64 0, .bool false, .int .i64 2]) ∧ Keep Nil w w' := by
  have HD := hid hrd
  have HO := hid h
  have HN := hid hn
  clear hrd h hn
  go_enter Try.func25, Try.ntmps25
  unfold dv
  go_wp2_with fail
  refine (rvalues_bad d HO.out (rd_keep HD.out (Keep.alloc (Keep.refl Nil _) _) (fun _ _ h => h)) hm HN.out).mono ?_
  rintro e w1 ⟨rfl, hk⟩
  have HK := hid hk
  clear hk
  go_wp2
  go_ret3
  exact ⟨rfl, ((Keep.refl Nil w).alloc _).trans HK.out (fun _ _ h => h)⟩

set_option maxHeartbeats 1000000 in
theorem rLeast_range (d : Dom) (h : d.ok) (hrd : Rd w 1 (.slice a d.cuts.length c) d.cuts.length (u64s d.cuts)) (hm : d.cuts.length ≤ 1000000) (hn : ∀ y ∈ d.cuts, 0 ≤ y) (v x : Int) (hv : v < 0 ∨ (d.cnt : Int) ≤ v) :
    Calls Try.prog 25 #[dv d a c, .int .i64 v, .int .u64 x] w fun e w' => e = .returned (.tuple #[.int .u64 0, .bool false, .int .i64 3]) ∧ Keep Nil w w' := by
  have HD := hid hrd
  have HO := hid h
  have HN := hid hn
  clear hrd h hn
  by_cases h0 : v < 0
  · have d0 : decide (v < 0) = true := decide_eq_true h0
    clear h0 hv
    go_enter Try.func25, Try.ntmps25
    unfold dv
    go_wp2_with fail
    refine (rvalues_ok d HO.out (rd_keep HD.out (Keep.alloc (Keep.refl Nil _) _) (fun _ _ h => h)) hm HN.out).mono ?_
    rintro e w1 ⟨rfl, hk⟩
    have HK := hid hk
    clear hk
    go_wp2
    go_ret3
    exact ⟨rfl, ((Keep.refl Nil w).alloc _).trans HK.out (fun _ _ h => h)⟩
  · have d0 : decide (v < 0) = false := decide_eq_false h0
    have d1 : decide ((d.cnt : Int) ≤ v) = true := decide_eq_true (by omega)
    clear h0 hv
    go_enter Try.func25, Try.ntmps25
    unfold dv
    go_wp2_with fail
    refine (rvalues_ok d HO.out (rd_keep HD.out (Keep.alloc (Keep.refl Nil _) _) (fun _ _ h => h)) hm HN.out).mono ?_
    rintro e w1 ⟨rfl, hk⟩
    have HK := hid hk
    clear hk
    go_wp2
    go_ret3
    exact ⟨rfl, ((Keep.refl Nil w).alloc _).trans HK.out (fun _ _ h => h)⟩

set_option maxHeartbeats 4000000 in
theorem rLeast_ok (d : Dom) (h : d.ok) (hrd : Rd w 1 (.slice a d.cuts.length c) d.cuts.length (u64s d.cuts)) (hm : d.cuts.length ≤ 1000000) (hn : ∀ y ∈ d.cuts, 0 ≤ y) (hc : ∀ y ∈ d.cuts, y ≤ topU) (v : Nat) (hv : v < d.cnt) (x : Int) (hx0 : 0 ≤ x) (hx1 : x ≤ topU) :
    Calls Try.prog 25 #[dv d a c, .int .i64 v, .int .u64 x] w fun e w' => e = .returned (leastV3 (d.least v x)) ∧ Keep Nil w w' := by
  obtain ⟨vi, hvi⟩ : ∃ vi : Int, vi = v := ⟨_, rfl⟩
  obtain ⟨n, hnc⟩ : ∃ n, n = d.cnt := ⟨_, rfl⟩
  have hnear := fun hk => @Dom.least_near d h hk v x
  have hsome := fun (y : Int) (hy : d.least v x = some y) => d.least_some h hv hx0 hx1 hc hy
  have hnone := fun (hl : d.least v x = none) (y : Int) (g1 : x ≤ y) (g2 : y ≤ topU) => d.least_none h hv hx0 hl g1 g2
  obtain ⟨hp, hp'⟩ := Dom.cnt_pos h
  obtain ⟨r, hr⟩ : ∃ r, r = d.least v x := ⟨_, rfl⟩
  have HD := hid hrd
  have HO := hid h
  have HN := hid hn
  have d0 : decide (vi < 0) = false := decide_eq_false (by omega)
  have d1 : decide ((n : Int) ≤ vi) = false := decide_eq_false (by omega)
  have v0 : 0 ≤ vi := by omega
  rw [← hvi, ← hr]
  rw [← hnc] at hp hp'
  have HVI := hid hvi
  have HNC := hid hnc
  have HR := hid hr
  have HV := hid hv
  have HC := hid hc
  have HNE := hid hnear
  have HSO := hid hsome
  have HNO := hid hnone
  clear hrd hn hvi hnc hr hv hc hnear hsome hnone
  go_enter Try.func25, Try.ntmps25
  unfold dv
  go_wp2_with fail
  refine (rvalues_ok d HO.out (rd_keep HD.out (Keep.alloc (Keep.refl Nil _) _) (fun _ _ h => h)) hm HN.out).mono ?_
  rw [← HNC.out]
  rintro e w1 ⟨rfl, hk⟩
  have hb := hk.at (heap_alloc_new w _) (fun h => h)
  have HB := hid hb
  obtain ⟨c0, c1, c2⟩ := box3 hk
  have HK := hid (((Keep.refl Nil w).alloc _).trans hk (fun _ _ h => h))
  clear hk hb
  by_cases hk3 : d.k = 3
  · have hasc : AscTo d.cuts d.cuts.length ∧ 1 ≤ d.cuts.length := by
      rcases h with ⟨h1, -⟩ | ⟨h1, -⟩ | ⟨-, -, h1, h2⟩
      · omega
      · omega
      · exact ⟨h2, h1.1⟩
    have hvl : v ≤ d.cuts.length := by
      have := HV.out
      simp only [Dom.cnt, hk3] at this
      simpa using Nat.lt_succ_iff.1 this
    have hl := hid (HR.out.trans (least_three hk3 v x))
    have HA := hid hasc
    have HVL := hid hvl
    rw [hk3] at c0
    clear h hasc hvl hk3
    go_wp2_with fail
    rw [HVI.out]
    refine (rcut_any d.cuts HA.out.2 HA.out.1 (rd_keep HD.out HK.out (fun _ _ h => h)) hm v HVL.out x hx0 hx1).mono ?_
    rw [← hl.out]
    rintro e w2 ⟨rfl, rfl⟩
    cases hr : r with
    | none =>
      have HRN := hid hr
      clear hr
      rw [show leastV3 none = .tuple #[.int .u64 0, .bool false, .int .i64 0] from rfl]
      go_wp2
      go_ret3
      rw [HRN.out]
      exact ⟨rfl, HK.out⟩
    | some y =>
      have HRN := hid hr
      clear hr
      rw [show leastV3 (some y) = .tuple #[.int .u64 y, .bool true, .int .i64 0] from rfl]
      go_wp2
      go_ret3
      rw [HRN.out]
      exact ⟨rfl, HK.out⟩
  · have d3 : (d.k == 3) = false := beq_eq_false_iff_ne.2 hk3
    have hne := HNE.out hk3
    rw [← HR.out, ← HNC.out] at hne
    have HN2 := hid hne
    unfold topU at hx1
    clear h hk3 hne
    go_wp2
    go_loopw [11, 12] (fun k i wr => ∃ (j : Nat) (q : Int), j < n ∧ i = .int .i64 j ∧ k = .int .u64 q ∧ Hid (q = x + j) ∧ 0 ≤ q ∧ q ≤ 18446744073709551615 ∧ (∀ y, r = some y → q ≤ y) ∧ Keep Nil w1 wr) (fun _ i _ => n - (intOf i).toNat)
    case atStart => exact ⟨0, x, by omega, rfl, rfl, hid (by simp), hx0, hx1, fun y hy => by rw [HR.out] at hy; exact (HSO.out y hy).1, Keep.refl _ _⟩
    case round =>
      obtain ⟨j, q, hj, rfl, rfl, HQ, q0, q1, hq, hk4⟩ := hrel
      have K4 := hid hk4
      have hbw := hk4.at HB.out (fun h => h)
      have e0 : wr.cell? ⟨w.heap.size, 0, none⟩ = some (.int .u8 d.k) := by rw [cell_of hbw]; rfl
      have e1 : wr.cell? ⟨w.heap.size, 1, none⟩ = some (.int .i64 d.n) := by rw [cell_of hbw]; rfl
      have e2 : wr.cell? ⟨w.heap.size, 2, none⟩ = some (.slice a d.cuts.length c) := by rw [cell_of hbw]; rfl
      have HQY := hid hq
      clear hk4 hbw hq c0 c1 c2
      go_wp2_with fail
      refine (rof_ok d HO.out (rd_keep HD.out (HK.out.trans K4.out (fun _ _ h => h)) (fun _ _ h => h)) hm HN.out q q0 q1).mono ?_
      rintro e w2 ⟨rfl, hk⟩
      have K5 := hid (K4.out.trans hk (fun _ _ h => h))
      obtain ⟨z, hz⟩ : ∃ z : Int, z = d.of q := ⟨_, rfl⟩
      rw [← hz]
      have HZ := hid hz
      clear hk hz e0 e1 e2
      cases hr : r with
      | some y =>
        obtain ⟨g1, g2, g3, g4⟩ := HSO.out y (HR.out.symm.trans hr)
        have hqy := HQY.out y hr
        have hnr := HN2.out.1 y hr
        have HRN := hid hr
        have HG4 := hid g4
        unfold topU at g2
        have HG3 := hid g3
        clear hr g4 g3
        by_cases hqe : q = y
        · have d4 : (z == vi) = true := beq_iff_eq.2 (by rw [HZ.out, hqe, HG3.out, HVI.out])
          have HQE := hid hqe
          clear hqe
          go_wp2
          go_ret3
          rw [HRN.out, ← HQE.out]
          exact ⟨rfl, HK.out.trans K5.out (fun _ _ h => h)⟩
        · have d4 : (z == vi) = false := beq_eq_false_iff_ne.2 (by rw [HZ.out, HVI.out]; have := HG4.out q (by have := HQ.out; omega) (by omega); omega)
          have d5 : (q == 18446744073709551615) = false := beq_eq_false_iff_ne.2 (by omega)
          have hjn : j + 1 < n := by have := HQ.out; omega
          have hqlt : q < 18446744073709551615 := by omega
          have hqy1 : q + 1 ≤ y := by omega
          clear hqe
          go_wp2
          go_roundw
          case rel => exact ⟨j + 1, q + 1, hjn, by go_num, rfl, hid (by rw [HQ.out]; omega), by omega, by omega, fun y' hy' => by rw [HRN.out] at hy'; obtain rfl := Option.some.inj hy'; exact hqy1, K5.out⟩
          case measure => simp [intOf]; omega
      | none =>
        have hnr := HN2.out.2 hr
        have HRN := hid hr
        unfold topU at hnr
        have hzv := HNO.out (HR.out.symm.trans hr) q (by have := HQ.out; omega) q1
        have d4 : (z == vi) = false := beq_eq_false_iff_ne.2 (by rw [HZ.out, HVI.out]; omega)
        clear hr hzv
        by_cases hqe : q = 18446744073709551615
        · have d5 : (q == 18446744073709551615) = true := beq_iff_eq.2 hqe
          clear hqe
          go_wp2
          go_ret3
          rw [HRN.out]
          exact ⟨rfl, HK.out.trans K5.out (fun _ _ h => h)⟩
        · have d5 : (q == 18446744073709551615) = false := beq_eq_false_iff_ne.2 hqe
          have hjn : j + 1 < n := by have := HQ.out; omega
          have hqlt : q < 18446744073709551615 := by omega
          clear hqe
          go_wp2
          go_roundw
          case rel => exact ⟨j + 1, q + 1, hjn, by go_num, rfl, hid (by rw [HQ.out]; omega), by omega, by omega, fun y' hy' => (by rw [HRN.out] at hy'; cases hy'), K5.out⟩
          case measure => simp [intOf]; omega
end
end Go.Proofs.Ytfpobagkananeaa
