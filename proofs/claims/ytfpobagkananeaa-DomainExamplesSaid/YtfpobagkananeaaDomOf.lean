/- domain: count, Values, Of, All: contracts. -/
import Derived.Test.YtfpobagkananeaaDomCheck
import Derived.IntWalk
namespace Go.Proofs.Ytfpobagkananeaa
open Go.RowKit Go.Lf

theorem ret_num' {k : IntKind} {a b : Int} (h : a = b) : Ending.returned (.int k a) = .returned (.int k b) := by rw [h]
theorem ret_num2 {k : IntKind} {a b : Int} {v : Value} (h : a = b) : Ending.returned (.tuple #[.int k a, v]) = .returned (.tuple #[.int k b, v]) := by rw [h]

section
variable {a : Option Addr} {c : Nat} {w : World}

/-- The cells of a boxed map. -/
theorem box3 {w1 : World} {x y z : Value} {t : TypeId} (hk : Keep Nil (w.alloc (.cells #[x, y, z] t (0, 0))) w1) : w1.cell? ⟨w.heap.size, 0, none⟩ = some x ∧ w1.cell? ⟨w.heap.size, 1, none⟩ = some y ∧ w1.cell? ⟨w.heap.size, 2, none⟩ = some z := by
  have h := hk.at (heap_alloc_new w _) (fun h => h)
  refine ⟨?_, ?_, ?_⟩ <;> (rw [cell_of h]; rfl)

set_option maxHeartbeats 400000 in
theorem count_any (d : Dom) (h : d.ok) : Calls Try.prog 36 #[dv d a c] w fun e w' => e = .returned (.int .i64 d.cnt) ∧ Keep Nil w w' := by
  obtain ⟨k, n, cuts⟩ := d
  unfold dv
  simp only
  rcases h with ⟨h1, h2, h3⟩ | ⟨h1, h2, h3⟩ | ⟨h1, h2, h3, h4⟩
  · simp only at h1 h2 h3
    subst h1 h2 h3
    go_enter Try.func36, Try.ntmps36
    go_wp2
    go_ret
    exact ⟨rfl, Keep.alloc (Keep.refl _ _) _⟩
  · simp only at h1 h2 h3
    subst h1 h3
    go_enter Try.func36, Try.ntmps36
    go_wp2
    go_ret
    exact ⟨ret_num' (by simp only [Dom.cnt, if_true]; omega), Keep.alloc (Keep.refl _ _) _⟩
  · simp only at h1 h2 h3 h4
    have HA := hid h4
    clear h4
    subst h1 h2
    go_enter Try.func36, Try.ntmps36
    go_wp2
    go_ret
    exact ⟨ret_num' (by simp [Dom.cnt]), Keep.alloc (Keep.refl _ _) _⟩

set_option maxHeartbeats 400000 in
theorem values_ok (d : Dom) (h : d.ok) (hrd : Rd w 1 (.slice a d.cuts.length c) d.cuts.length (u64s d.cuts)) (hm : d.cuts.length ≤ 1000000) :
    Calls Try.prog 16 #[dv d a c] w fun e w' => e = .returned (.tuple #[.int .i64 d.cnt, .int .i64 0]) ∧ Keep Nil w w' := by
  have HD := hid hrd
  have HO := hid h
  clear hrd h
  go_enter Try.func16, Try.ntmps16
  unfold dv
  go_wp2_with fail
  refine (check_any d (rd_keep HD.out (Keep.alloc (Keep.refl Nil _) _) (fun _ _ h => h)) hm).mono ?_
  rw [Dom.err_ok HO.out]
  rintro e w1 ⟨rfl, hk⟩
  obtain ⟨c0, c1, c2⟩ := box3 hk
  have HK := hid hk
  clear hk
  go_wp2_with fail
  refine (count_any d HO.out).mono ?_
  rintro e w2 ⟨rfl, hk⟩
  have HK2 := hid hk
  clear hk
  go_wp2
  go_ret2
  exact ⟨rfl, ((Keep.refl Nil w).alloc _).trans (HK.out.trans HK2.out (fun _ _ h => h)) (fun _ _ h => h)⟩

set_option maxHeartbeats 400000 in
theorem values_bad_all (d : Dom) (h : ¬ d.ok) (hrd : Rd w 1 (.slice a d.cuts.length c) d.cuts.length (u64s d.cuts)) :
    Calls Try.prog 16 #[dv d a c] w fun e w' => e = .returned (.tuple #[.int .i64 0, .int .i64 2]) ∧ Keep Nil w w' := by
  have HD := hid hrd
  have HO := hid h
  clear hrd h
  go_enter Try.func16, Try.ntmps16
  unfold dv
  go_wp2_with fail
  refine (check_all d (rd_keep HD.out (Keep.alloc (Keep.refl Nil _) _) (fun _ _ h => h))).mono ?_
  rw [Dom.err_bad HO.out]
  rintro e w1 ⟨rfl, hk⟩
  have HK := hid hk
  clear hk
  go_wp2
  go_ret2
  exact ⟨rfl, ((Keep.refl Nil w).alloc _).trans HK.out (fun _ _ h => h)⟩

theorem values_bad (d : Dom) (h : ¬ d.ok) (hrd : Rd w 1 (.slice a d.cuts.length c) d.cuts.length (u64s d.cuts)) (_ : d.cuts.length ≤ 1000000) :
    Calls Try.prog 16 #[dv d a c] w fun e w' => e = .returned (.tuple #[.int .i64 0, .int .i64 2]) ∧ Keep Nil w w' := values_bad_all d h hrd

set_option maxHeartbeats 400000 in
theorem of_bad (d : Dom) (h : ¬ d.ok) (hrd : Rd w 1 (.slice a d.cuts.length c) d.cuts.length (u64s d.cuts)) (hm : d.cuts.length ≤ 1000000) (key : Int) :
    Calls Try.prog 18 #[dv d a c, .int .u64 key] w fun e w' => e = .returned (.tuple #[.int .i64 0, .int .i64 2]) ∧ Keep Nil w w' := by
  have HD := hid hrd
  have HO := hid h
  clear hrd h
  go_enter Try.func18, Try.ntmps18
  unfold dv
  go_wp2_with fail
  refine (check_any d (rd_keep HD.out (Keep.alloc (Keep.refl Nil _) _) (fun _ _ h => h)) hm).mono ?_
  rw [Dom.err_bad HO.out]
  rintro e w1 ⟨rfl, hk⟩
  have HK := hid hk
  clear hk
  go_wp2
  go_ret2
  exact ⟨rfl, ((Keep.refl Nil w).alloc _).trans HK.out (fun _ _ h => h)⟩

theorem mod_of {key n : Int} (h : 1 ≤ n ∧ n ≤ 64) : wrap64 (key % n) = ((key % n).toNat : Int) := by
  have := Int.emod_nonneg key (show n ≠ 0 by omega)
  have := Int.emod_lt_of_pos key (show 0 < n by omega)
  unfold wrap64
  omega

set_option maxHeartbeats 1000000 in
theorem of_ok (d : Dom) (h : d.ok) (hrd : Rd w 1 (.slice a d.cuts.length c) d.cuts.length (u64s d.cuts)) (hm : d.cuts.length ≤ 1000000) (key : Int) (k0 : 0 ≤ key) (k1 : key ≤ topU) :
    Calls Try.prog 18 #[dv d a c, .int .u64 key] w fun e w' => e = .returned (.tuple #[.int .i64 (d.of key), .int .i64 0]) ∧ Keep Nil w w' := by
  have HD := hid hrd
  have HO := hid h
  clear hrd
  unfold topU at k1
  go_enter Try.func18, Try.ntmps18
  unfold dv
  go_wp2_with fail
  refine (check_any d (rd_keep HD.out (Keep.alloc (Keep.refl Nil _) _) (fun _ _ h => h)) hm).mono ?_
  rw [Dom.err_ok HO.out]
  rintro e w1 ⟨rfl, hk⟩
  obtain ⟨c0, c1, c2⟩ := box3 hk
  have hR := hid (rd_keep HD.out (((Keep.refl Nil w).alloc _).trans hk (fun _ _ h => h)) (fun _ _ h => h))
  have HK := hid (((Keep.refl Nil w).alloc _).trans hk (fun _ _ h => h))
  clear hk
  rcases h with ⟨h1, h2, h3⟩ | ⟨h1, ⟨n0, n1⟩, h3⟩ | ⟨h1, h2, h3, h4⟩
  · rw [h1] at c0
    have H1 := hid h1
    clear h1 h2 h3
    go_wp2
    go_ret2
    exact ⟨ret_num2 (by simp [Dom.of, H1.out]), HK.out⟩
  · rw [h1] at c0
    have H1 := hid h1
    have hmo := hid (mod_of (key := key) ⟨n0, n1⟩)
    have hof := hid (show ((d.of key : Nat) : Int) = ((key % d.n).toNat : Int) by simp [Dom.of, h1])
    have hn : (d.n == 0) = false := beq_eq_false_iff_ne.2 (by omega)
    clear h1 h3
    generalize d.n = n at *
    go_wp2
    go_ret2
    refine ⟨ret_num2 ?_, HK.out⟩
    rw [hof.out, ← hmo.out]
  · rw [h1] at c0
    have H1 := hid h1
    have hof := hid (show ((d.of key : Nat) : Int) = (cntLe d.cuts key d.cuts.length : Nat) by simp [Dom.of, h1])
    have HA := hid h4
    clear h4 h1 h2 h3
    generalize d.cuts = cuts at *
    go_wp2
    go_loop [7, 30] (fun s i => ∃ j : Nat, j ≤ cuts.length ∧ i = .int .i64 j ∧ s = .int .i64 (cntLe cuts key j : Nat)) (fun _ i => cuts.length - (intOf i).toNat)
    case atStart => exact ⟨0, Nat.zero_le _, rfl, rfl⟩
    case round =>
      obtain ⟨j, hj, rfl, rfl⟩ := hrel
      have hcl := cntLe_le cuts key j
      by_cases hlt : j < cuts.length
      · obtain ⟨b, off, rfl, hc⟩ := rd_cut hR.out hlt
        have hcj := hc j hlt
        clear hc
        have nx : cntLe cuts key (j + 1) = if gcut cuts j ≤ key then cntLe cuts key j + 1 else cntLe cuts key j := rfl
        by_cases hle : gcut cuts j ≤ key
        · have d1 : decide (gcut cuts j ≤ key) = true := decide_eq_true hle
          rw [if_pos hle] at nx
          have NX := hid nx
          clear hle nx
          generalize cntLe cuts key j = z at *
          go_wp2
          go_round
          case rel => exact ⟨j + 1, by omega, by go_num, by rw [NX.out]; go_num⟩
          case measure => simp [intOf]; omega
        · have d1 : decide (gcut cuts j ≤ key) = false := decide_eq_false hle
          rw [if_neg hle] at nx
          have NX := hid nx
          clear hle nx
          generalize cntLe cuts key j = z at *
          go_wp2
          go_round
          case rel => exact ⟨j + 1, by omega, by go_num, by rw [NX.out]⟩
          case measure => simp [intOf]; omega
      · obtain rfl : j = cuts.length := by omega
        go_wp2
        go_ret2
        exact ⟨ret_num2 hof.out.symm, HK.out⟩

theorem shl_or {s v : Nat} (hs : s < 18446744073709551616) (hv : v < 64) : Go.bits .or .u64 (s : Int) (IntKind.u64.wrap (2 ^ v : Int)) = ((s ||| 2 ^ v : Nat) : Int) := by
  rw [wrap_pow hv, bits_or_u64 hs (pow_lt64 hv)]

set_option maxHeartbeats 400000 in
theorem all_bad (d : Dom) (h : ¬ d.ok) (hrd : Rd w 1 (.slice a d.cuts.length c) d.cuts.length (u64s d.cuts)) (hm : d.cuts.length ≤ 1000000) :
    Calls Try.prog 20 #[dv d a c] w fun e w' => e = .returned (.tuple #[.int .u64 0, .int .i64 2]) ∧ Keep Nil w w' := by
  have HD := hid hrd
  have HO := hid h
  clear hrd h
  go_enter Try.func20, Try.ntmps20
  unfold dv
  go_wp2_with fail
  refine (check_any d (rd_keep HD.out (Keep.alloc (Keep.refl Nil _) _) (fun _ _ h => h)) hm).mono ?_
  rw [Dom.err_bad HO.out]
  rintro e w1 ⟨rfl, hk⟩
  have HK := hid hk
  clear hk
  go_wp2
  go_ret2
  exact ⟨rfl, ((Keep.refl Nil w).alloc _).trans HK.out (fun _ _ h => h)⟩

set_option maxHeartbeats 1000000 in
theorem all_ok (d : Dom) (h : d.ok) (hrd : Rd w 1 (.slice a d.cuts.length c) d.cuts.length (u64s d.cuts)) (hm : d.cuts.length ≤ 1000000) :
    Calls Try.prog 20 #[dv d a c] w fun e w' => e = .returned (.tuple #[.int .u64 d.all, .int .i64 0]) ∧ Keep Nil w w' := by
  have HD := hid hrd
  have HO := hid h
  obtain ⟨hp, hp'⟩ := Dom.cnt_pos h
  clear hrd h
  go_enter Try.func20, Try.ntmps20
  unfold dv
  go_wp2_with fail
  refine (check_any d (rd_keep HD.out (Keep.alloc (Keep.refl Nil _) _) (fun _ _ h => h)) hm).mono ?_
  rw [Dom.err_ok HO.out]
  rintro e w1 ⟨rfl, hk⟩
  obtain ⟨c0, c1, c2⟩ := box3 hk
  have HK := hid (((Keep.refl Nil w).alloc _).trans hk (fun _ _ h => h))
  clear hk
  go_wp2_with fail
  refine (count_any d HO.out).mono ?_
  rintro e w2 ⟨rfl, hk⟩
  have HK2 := hid (HK.out.trans hk (fun _ _ h => h))
  clear hk
  have hall : d.all = bset (fun _ => true) d.cnt := rfl
  have HALL := hid hall
  clear hall
  generalize d.cnt = m at *
  go_wp2
  go_loop [5, 14] (fun s i => ∃ j : Nat, j ≤ m ∧ i = .int .i64 j ∧ s = .int .u64 (bset (fun _ => true) j : Nat)) (fun _ i => m - (intOf i).toNat)
  case atStart => exact ⟨0, Nat.zero_le _, rfl, rfl⟩
  case round =>
    obtain ⟨j, hj, rfl, rfl⟩ := hrel
    by_cases hlt : j < m
    · have hb := bits_64 (fun _ => true) (k := j) (by omega)
      have so := hid (shl_or hb (show j < 64 by omega))
      have nx := hid (show bset (fun _ => true) (j + 1) = bset (fun _ => true) j ||| 2 ^ j from rfl)
      generalize bset (fun _ => true) j = z at *
      go_wp2
      go_round
      case rel => exact ⟨j + 1, by omega, by go_num, by rw [nx.out, ← so.out]⟩
      case measure => simp [intOf]; omega
    · obtain rfl : j = m := by omega
      rw [← HALL.out]
      go_wp2
      go_ret2
      exact ⟨rfl, HK2.out⟩
end
end Go.Proofs.Ytfpobagkananeaa
