/- domain: least, Least, Image; span.Check: contracts. -/
import Derived.Test.YtfpobagkananeaaDomOf
namespace Go.Proofs.Ytfpobagkananeaa
open Go.RowKit Go.Lf

/-- What least returns. -/
def leastV (o : Option Int) : Value := match o with
  | some x => .tuple #[.int .u64 x, .bool true]
  | none => .tuple #[.int .u64 0, .bool false]
/-- What Least returns. -/
def leastV3 (o : Option Int) : Value := match o with
  | some x => .tuple #[.int .u64 x, .bool true, .int .i64 0]
  | none => .tuple #[.int .u64 0, .bool false, .int .i64 0]

section
variable {a : Option Addr} {c : Nat} {w : World}

set_option maxHeartbeats 1000000 in
theorem least1 (d : Dom) (h : d.k = 1) (v : Int) (x : Int) : Calls Try.prog 39 #[dv d a c, .int .i64 v, .int .u64 x] w fun e w' => e = .returned (.tuple #[.int .u64 x, .bool true]) ∧ Keep Nil w w' := by
  obtain ⟨k, n, cuts⟩ := d
  simp only at h
  subst h
  unfold dv
  go_enter Try.func39, Try.ntmps39
  go_wp2
  go_ret2
  exact ⟨rfl, Keep.alloc (Keep.refl _ _) _⟩

theorem by_val {v n x : Int} (h0 : 0 ≤ v) (h1 : v < n) (h2 : n ≤ 64) : 0 ≤ v + n - x % n ∧ v + n - x % n < 1000 ∧ 0 ≤ x % n ∧ x % n < n ∧ 0 ≤ (v + n - x % n) % n ∧ (v + n - x % n) % n < n := by
  have := Int.emod_nonneg x (show n ≠ 0 by omega)
  have := Int.emod_lt_of_pos x (show 0 < n by omega)
  exact ⟨by omega, by omega, by omega, by omega, Int.emod_nonneg _ (by omega), Int.emod_lt_of_pos _ (by omega)⟩

set_option maxHeartbeats 1000000 in
theorem least2 (d : Dom) (h : d.k = 2) (hn0 : 1 ≤ d.n) (hn1 : d.n ≤ 64) (v : Nat) (hv : (v : Int) < d.n) (x : Int) (hx0 : 0 ≤ x) (hx1 : x ≤ topU) :
    Calls Try.prog 39 #[dv d a c, .int .i64 v, .int .u64 x] w fun e w' => e = .returned (leastV (d.least v x)) ∧ Keep Nil w w' := by
  obtain ⟨k, n, cuts⟩ := d
  simp only at h hn0 hn1 hv
  subst h
  unfold topU at hx1
  obtain ⟨b1, b2, b3, b4, b5, b6⟩ := by_val (x := x) (show 0 ≤ (v : Int) by omega) hv hn1
  have hn : (n == 0) = false := beq_eq_false_iff_ne.2 (by omega)
  have b7 : 0 ≤ ((v : Int) + n - x) % n := Int.emod_nonneg _ (by omega)
  have hl := hid (show (Dom.mk 2 n cuts).least v x = if 18446744073709551615 - x < ((v : Int) + n - x % n) % n then none else some (x + ((v : Int) + n - x % n) % n) from rfl)
  unfold dv
  go_enter Try.func39, Try.ntmps39
  go_wp2
  · have h : 18446744073709551615 - x < ((v : Int) + n - x) % n := by assumption
    go_ret2
    refine ⟨?_, Keep.alloc (Keep.refl _ _) _⟩
    rw [hl.out, if_pos (by simpa using h)]
    rfl
  · have h : ((v : Int) + n - x) % n ≤ 18446744073709551615 - x := by assumption
    go_ret2
    refine ⟨?_, Keep.alloc (Keep.refl _ _) _⟩
    rw [hl.out, if_neg (by rw [Int.sub_emod_emod]; omega)]
    exact ret_num2 (by rw [Int.sub_emod_emod])

theorem least_three {d : Dom} (h : d.k = 3) (v : Nat) (x : Int) : d.least v x = if v < d.cuts.length ∧ gcut d.cuts v ≤ x then none else some (if x < prv d.cuts v then prv d.cuts v else x) := by
  unfold Dom.least; rw [if_neg (by omega), if_pos h]

set_option maxHeartbeats 2000000 in
theorem least3 (d : Dom) (h : d.k = 3) (h1 : 1 ≤ d.cuts.length) (ha : AscTo d.cuts d.cuts.length) (hrd : Rd w 1 (.slice a d.cuts.length c) d.cuts.length (u64s d.cuts)) (hm : d.cuts.length ≤ 1000000) (hc : ∀ y ∈ d.cuts, y ≤ topU) (v : Nat) (hv : v ≤ d.cuts.length) (x : Int) (hx0 : 0 ≤ x) (hx1 : x ≤ topU) :
    Calls Try.prog 39 #[dv d a c, .int .i64 v, .int .u64 x] w fun e w' => e = .returned (leastV (d.least v x)) ∧ Keep Nil w w' := by
  have hl := least_three h v x
  generalize d.least v x = r at *
  obtain ⟨k, n, cuts⟩ := d
  simp only at h h1 ha hrd hm hv hc hl ⊢
  subst h
  unfold topU at hx1
  unfold dv
  simp only
  obtain ⟨b, off, rfl, hcell⟩ := rd_cut (rd_keep hrd (Keep.alloc (Keep.refl Nil w) (.cells #[.int .u8 3, .int .i64 n, .slice a cuts.length c] 32 (0, 0))) (fun _ _ h => h)) (i := 0) (by omega)
  clear hrd
  have hq : v < cuts.length → 0 < gcut cuts v ∧ gcut cuts v ≤ 18446744073709551615 := fun h => ⟨by have := ha.low h; omega, by have := hc _ (List.mem_of_getElem? (gcut_at h)); unfold topU at this; exact this⟩
  have hb : ∀ i, i < cuts.length → 0 ≤ gcut cuts i ∧ gcut cuts i ≤ 18446744073709551615 := fun i h => ⟨by have := ha.low h; omega, by have := hc _ (List.mem_of_getElem? (gcut_at h)); unfold topU at this; exact this⟩
  have HL := hid hl
  clear hl hc ha
  rcases Nat.eq_zero_or_pos v with h0 | h0
  · subst h0
    obtain ⟨g0, g1⟩ := hq (by omega)
    have hc1 : (w.alloc (.cells #[.int .u8 3, .int .i64 n, .slice (some ⟨b, off, none⟩) cuts.length c] 32)).cell? ⟨b, off, none⟩ = some (.int .u64 (gcut cuts 0)) := hcell 0 (by omega)
    have d1 : decide (0 < cuts.length) = true := decide_eq_true (by omega)
    have hpl : 0 < cuts.length := by omega
    clear hq hcell hv
    go_enter Try.func39, Try.ntmps39
    go_wp2
    · have h : gcut cuts 0 - 1 < x := by assumption
      go_ret2
      rw [HL.out, if_pos ⟨hpl, by omega⟩]
      exact ⟨rfl, Keep.alloc (Keep.refl _ _) _⟩
    · have h : x ≤ gcut cuts 0 - 1 := by assumption
      go_ret2
      rw [HL.out, if_neg (by omega), if_neg (by rw [prv_zero]; omega)]
      exact ⟨rfl, Keep.alloc (Keep.refl _ _) _⟩
  · obtain ⟨u, rfl⟩ : ∃ u, v = u + 1 := ⟨v - 1, by omega⟩
    have hcu := hcell u (by omega)
    have hp : prv cuts (u + 1) = gcut cuts u := prv_succ _ _
    rw [hp] at HL
    have hgu : 0 ≤ gcut cuts u ∧ gcut cuts u ≤ 18446744073709551615 := hb u (by omega)
    obtain ⟨e0, e1⟩ := hgu
    clear hp h0 hb
    by_cases hlt : u + 1 < cuts.length
    · obtain ⟨g0, g1⟩ := hq hlt
      have hcv := hcell (u + 1) hlt
      clear hq hcell hv
      go_enter Try.func39, Try.ntmps39
      go_wp2
      · go_ret2
        rw [HL.out, if_pos ⟨hlt, by omega⟩]
        exact ⟨rfl, Keep.alloc (Keep.refl _ _) _⟩
      all_goals
        go_ret2
        rw [HL.out, if_neg (by omega)]
        first | (rw [if_pos (by omega)]; exact ⟨rfl, Keep.alloc (Keep.refl _ _) _⟩) | (rw [if_neg (by omega)]; exact ⟨rfl, Keep.alloc (Keep.refl _ _) _⟩) | exact ⟨by split <;> first | rfl | (exact ret_num2 (by omega)), Keep.alloc (Keep.refl _ _) _⟩
    · have hn : ¬ u + 1 < cuts.length := hlt
      have hv' : u < cuts.length := by omega
      clear hq hcell
      go_enter Try.func39, Try.ntmps39
      go_wp2
      all_goals
        go_ret2
        rw [HL.out, if_neg (by omega)]
        first | (rw [if_pos (by omega)]; exact ⟨rfl, Keep.alloc (Keep.refl _ _) _⟩) | (rw [if_neg (by omega)]; exact ⟨rfl, Keep.alloc (Keep.refl _ _) _⟩) | exact ⟨by split <;> first | rfl | (exact ret_num2 (by omega)), Keep.alloc (Keep.refl _ _) _⟩

/-- least at a valid map. -/
theorem least_any (d : Dom) (h : d.ok) (hrd : Rd w 1 (.slice a d.cuts.length c) d.cuts.length (u64s d.cuts)) (hm : d.cuts.length ≤ 1000000) (hc : ∀ y ∈ d.cuts, y ≤ topU) (v : Nat) (hv : v < d.cnt) (x : Int) (hx0 : 0 ≤ x) (hx1 : x ≤ topU) :
    Calls Try.prog 39 #[dv d a c, .int .i64 v, .int .u64 x] w fun e w' => e = .returned (leastV (d.least v x)) ∧ Keep Nil w w' := by
  rcases h with ⟨h1, h2, h3⟩ | ⟨h1, ⟨n0, n1⟩, h3⟩ | ⟨h1, h2, h3, h4⟩
  · refine (least1 d h1 v x).mono ?_
    rintro e w' ⟨rfl, hk⟩
    exact ⟨by simp [Dom.least, h1, leastV], hk⟩
  · exact least2 d h1 n0 n1 v (by simp only [Dom.cnt, h1, if_true] at hv; omega) x hx0 hx1
  · exact least3 d h1 h3.1 h4 hrd hm hc v (by simp only [Dom.cnt, h1] at hv; simpa using Nat.lt_succ_iff.1 hv) x hx0 hx1

set_option maxHeartbeats 400000 in
theorem scheck_any (lo hi : Int) : Calls Try.prog 41 #[.agg #[.int .u64 lo, .int .u64 hi]] w fun e w' => e = .returned (.int .i64 (if hi < lo then 13 else 0)) ∧ Keep Nil w w' := by
  by_cases h : hi < lo
  · rw [if_pos h]
    go_enter Try.func41, Try.ntmps41
    go_wp2
    go_ret
    exact ⟨rfl, Keep.alloc (Keep.refl _ _) _⟩
  · rw [if_neg h]
    go_enter Try.func41, Try.ntmps41
    go_wp2
    go_ret
    exact ⟨rfl, Keep.alloc (Keep.refl _ _) _⟩

set_option maxHeartbeats 400000 in
theorem Least_bad (d : Dom) (h : ¬ d.ok) (hrd : Rd w 1 (.slice a d.cuts.length c) d.cuts.length (u64s d.cuts)) (hm : d.cuts.length ≤ 1000000) (v x : Int) :
    Calls Try.prog 24 #[dv d a c, .int .i64 v, .int .u64 x] w fun e w' => e = .returned (.tuple #[.int .u64 0, .bool false, .int .i64 2]) ∧ Keep Nil w w' := by
  have HD := hid hrd
  have HO := hid h
  clear hrd h
  go_enter Try.func24, Try.ntmps24
  unfold dv
  go_wp2_with fail
  refine (check_any d (rd_keep HD.out (Keep.alloc (Keep.refl Nil _) _) (fun _ _ h => h)) hm).mono ?_
  rw [Dom.err_bad HO.out]
  rintro e w1 ⟨rfl, hk⟩
  have HK := hid hk
  clear hk
  go_wp2
  go_ret3
  exact ⟨rfl, ((Keep.refl Nil w).alloc _).trans HK.out (fun _ _ h => h)⟩

set_option maxHeartbeats 1000000 in
theorem Least_range (d : Dom) (h : d.ok) (hrd : Rd w 1 (.slice a d.cuts.length c) d.cuts.length (u64s d.cuts)) (hm : d.cuts.length ≤ 1000000) (v x : Int) (hv : v < 0 ∨ (d.cnt : Int) ≤ v) :
    Calls Try.prog 24 #[dv d a c, .int .i64 v, .int .u64 x] w fun e w' => e = .returned (.tuple #[.int .u64 0, .bool false, .int .i64 3]) ∧ Keep Nil w w' := by
  have HD := hid hrd
  have HO := hid h
  clear hrd h
  by_cases h0 : v < 0
  · have d0 : decide (v < 0) = true := decide_eq_true h0
    clear h0 hv
    go_enter Try.func24, Try.ntmps24
    unfold dv
    go_wp2_with fail
    refine (check_any d (rd_keep HD.out (Keep.alloc (Keep.refl Nil _) _) (fun _ _ h => h)) hm).mono ?_
    rw [Dom.err_ok HO.out]
    rintro e w1 ⟨rfl, hk⟩
    have HK := hid hk
    clear hk
    go_wp2
    go_ret3
    exact ⟨rfl, ((Keep.refl Nil w).alloc _).trans HK.out (fun _ _ h => h)⟩
  · have d0 : decide (v < 0) = false := decide_eq_false h0
    have d1 : decide ((d.cnt : Int) ≤ v) = true := decide_eq_true (by omega)
    clear h0 hv
    go_enter Try.func24, Try.ntmps24
    unfold dv
    go_wp2_with fail
    refine (check_any d (rd_keep HD.out (Keep.alloc (Keep.refl Nil _) _) (fun _ _ h => h)) hm).mono ?_
    rw [Dom.err_ok HO.out]
    rintro e w1 ⟨rfl, hk⟩
    obtain ⟨c0, c1, c2⟩ := box3 hk
    have HK := hid hk
    clear hk
    go_wp2_with fail
    refine (count_any d HO.out).mono ?_
    rintro e w2 ⟨rfl, hk⟩
    have HK2 := hid hk
    clear hk
    go_wp2
    go_ret3
    exact ⟨rfl, ((Keep.refl Nil w).alloc _).trans (HK.out.trans HK2.out (fun _ _ h => h)) (fun _ _ h => h)⟩

set_option maxHeartbeats 1000000 in
theorem Least_ok (d : Dom) (h : d.ok) (hrd : Rd w 1 (.slice a d.cuts.length c) d.cuts.length (u64s d.cuts)) (hm : d.cuts.length ≤ 1000000) (hc : ∀ y ∈ d.cuts, y ≤ topU) (v : Nat) (hv : v < d.cnt) (x : Int) (hx0 : 0 ≤ x) (hx1 : x ≤ topU) :
    Calls Try.prog 24 #[dv d a c, .int .i64 v, .int .u64 x] w fun e w' => e = .returned (leastV3 (d.least v x)) ∧ Keep Nil w w' := by
  have HD := hid hrd
  have HO := hid h
  have HC := hid hc
  have d0 : decide ((v : Int) < 0) = false := decide_eq_false (by omega)
  have d1 : decide (d.cnt ≤ v) = false := decide_eq_false (by omega)
  clear hrd h hc
  go_enter Try.func24, Try.ntmps24
  unfold dv
  go_wp2_with fail
  refine (check_any d (rd_keep HD.out (Keep.alloc (Keep.refl Nil _) _) (fun _ _ h => h)) hm).mono ?_
  rw [Dom.err_ok HO.out]
  rintro e w1 ⟨rfl, hk⟩
  obtain ⟨c0, c1, c2⟩ := box3 hk
  have HK := hid (((Keep.refl Nil w).alloc _).trans hk (fun _ _ h => h))
  clear hk
  go_wp2_with fail
  refine (count_any d HO.out).mono ?_
  rintro e w2 ⟨rfl, hk⟩
  have b0 := hk.cell c0 (fun h => h)
  have b1 := hk.cell c1 (fun h => h)
  have b2 := hk.cell c2 (fun h => h)
  have HK2 := hid (HK.out.trans hk (fun _ _ h => h))
  clear hk c0 c1 c2 HK
  go_wp2_with fail
  refine (least_any d HO.out (rd_keep HD.out HK2.out (fun _ _ h => h)) hm HC.out v hv x hx0 hx1).mono ?_
  rintro e w3 ⟨rfl, hk⟩
  have HK3 := hid (HK2.out.trans hk (fun _ _ h => h))
  clear hk HK2
  cases hl : d.least v x with
  | none =>
    rw [show leastV none = .tuple #[.int .u64 0, .bool false] from rfl]
    have HL := hid hl
    clear hl
    go_wp2
    go_ret3
    rw [HL.out]
    exact ⟨rfl, HK3.out⟩
  | some y =>
    rw [show leastV (some y) = .tuple #[.int .u64 y, .bool true] from rfl]
    have HL := hid hl
    clear hl
    go_wp2
    go_ret3
    rw [HL.out]
    exact ⟨rfl, HK3.out⟩

set_option maxHeartbeats 400000 in
theorem image_bad (d : Dom) (h : ¬ d.ok) (hrd : Rd w 1 (.slice a d.cuts.length c) d.cuts.length (u64s d.cuts)) (hm : d.cuts.length ≤ 1000000) (lo hi : Int) :
    Calls Try.prog 26 #[dv d a c, .agg #[.int .u64 lo, .int .u64 hi]] w fun e w' => e = .returned (.tuple #[.int .u64 0, .int .i64 2]) ∧ Keep Nil w w' := by
  have HD := hid hrd
  have HO := hid h
  clear hrd h
  go_enter Try.func26, Try.ntmps26
  unfold dv
  go_wp2_with fail
  have k0 := hid (((Keep.refl Nil w).alloc (.cells #[.int .u8 d.k, .int .i64 d.n, .slice a d.cuts.length c] 32 (0, 0))).alloc (.cells #[.int .u64 lo, .int .u64 hi] 44 (0, 0)))
  refine (check_any d (rd_keep HD.out k0.out (fun _ _ h => h)) hm).mono ?_
  rw [Dom.err_bad HO.out]
  rintro e w1 ⟨rfl, hk⟩
  have HK := hid (k0.out.trans hk (fun _ _ h => h))
  clear hk
  go_wp2
  go_ret2
  exact ⟨rfl, HK.out⟩

set_option maxHeartbeats 400000 in
theorem image_span (d : Dom) (h : d.ok) (hrd : Rd w 1 (.slice a d.cuts.length c) d.cuts.length (u64s d.cuts)) (hm : d.cuts.length ≤ 1000000) (lo hi : Int) (hs : hi < lo) :
    Calls Try.prog 26 #[dv d a c, .agg #[.int .u64 lo, .int .u64 hi]] w fun e w' => e = .returned (.tuple #[.int .u64 0, .int .i64 13]) ∧ Keep Nil w w' := by
  have HD := hid hrd
  have HO := hid h
  have HS := hid hs
  clear hrd h hs
  go_enter Try.func26, Try.ntmps26
  unfold dv
  go_wp2_with fail
  have k0 := hid (((Keep.refl Nil w).alloc (.cells #[.int .u8 d.k, .int .i64 d.n, .slice a d.cuts.length c] 32 (0, 0))).alloc (.cells #[.int .u64 lo, .int .u64 hi] 44 (0, 0)))
  refine (check_any d (rd_keep HD.out k0.out (fun _ _ h => h)) hm).mono ?_
  rw [Dom.err_ok HO.out]
  rintro e w1 ⟨rfl, hk⟩
  have hb : w1.heap[w.heap.size + 1]? = some (.cells #[.int .u64 lo, .int .u64 hi] 44 (0, 0)) := hk.at (by have := heap_alloc_new (w.alloc (.cells #[.int .u8 d.k, .int .i64 d.n, .slice a d.cuts.length c] 32 (0, 0))) (.cells #[.int .u64 lo, .int .u64 hi] 44 (0, 0)); rwa [World.size_alloc] at this) (fun h => h)
  have s0 : w1.cell? ⟨w.heap.size + 1, 0, none⟩ = some (.int .u64 lo) := by rw [cell_of hb]; rfl
  have s1 : w1.cell? ⟨w.heap.size + 1, 1, none⟩ = some (.int .u64 hi) := by rw [cell_of hb]; rfl
  have HK := hid (k0.out.trans hk (fun _ _ h => h))
  clear hk hb
  go_wp2_with fail
  refine (scheck_any lo hi).mono ?_
  rw [if_pos HS.out]
  rintro e w2 ⟨rfl, hk⟩
  have HK2 := hid (HK.out.trans hk (fun _ _ h => h))
  clear hk
  go_wp2
  go_ret2
  exact ⟨rfl, HK2.out⟩

theorem inImg_some {d : Dom} {lo hi y : Int} {v : Nat} (h : d.least v lo = some y) : d.inImg lo hi v = decide (y ≤ hi) := by unfold Dom.inImg; rw [h]
theorem inImg_none {d : Dom} {lo hi : Int} {v : Nat} (h : d.least v lo = none) : d.inImg lo hi v = false := by unfold Dom.inImg; rw [h]

set_option maxHeartbeats 2000000 in
theorem image_ok (d : Dom) (h : d.ok) (hrd : Rd w 1 (.slice a d.cuts.length c) d.cuts.length (u64s d.cuts)) (hm : d.cuts.length ≤ 1000000) (hc : ∀ y ∈ d.cuts, y ≤ topU) (lo hi : Int) (hs : lo ≤ hi) (hl0 : 0 ≤ lo) (hl1 : hi ≤ topU) :
    Calls Try.prog 26 #[dv d a c, .agg #[.int .u64 lo, .int .u64 hi]] w fun e w' => e = .returned (.tuple #[.int .u64 (d.img lo hi), .int .i64 0]) ∧ Keep Nil w w' := by
  have HD := hid hrd
  have HO := hid h
  have HC := hid hc
  obtain ⟨hp, hp'⟩ := Dom.cnt_pos h
  clear hrd h hc
  go_enter Try.func26, Try.ntmps26
  unfold dv
  go_wp2_with fail
  have k0 := hid (((Keep.refl Nil w).alloc (.cells #[.int .u8 d.k, .int .i64 d.n, .slice a d.cuts.length c] 32 (0, 0))).alloc (.cells #[.int .u64 lo, .int .u64 hi] 44 (0, 0)))
  refine (check_any d (rd_keep HD.out k0.out (fun _ _ h => h)) hm).mono ?_
  rw [Dom.err_ok HO.out]
  rintro e w1 ⟨rfl, hk⟩
  have hb0 : w1.heap[w.heap.size]? = some (.cells #[.int .u8 d.k, .int .i64 d.n, .slice a d.cuts.length c] 32 (0, 0)) := hk.at (alloc_old (heap_alloc_new w _) _) (fun h => h)
  have hb : w1.heap[w.heap.size + 1]? = some (.cells #[.int .u64 lo, .int .u64 hi] 44 (0, 0)) := hk.at (by have := heap_alloc_new (w.alloc (.cells #[.int .u8 d.k, .int .i64 d.n, .slice a d.cuts.length c] 32 (0, 0))) (.cells #[.int .u64 lo, .int .u64 hi] 44 (0, 0)); rwa [World.size_alloc] at this) (fun h => h)
  have s0 : w1.cell? ⟨w.heap.size + 1, 0, none⟩ = some (.int .u64 lo) := by rw [cell_of hb]; rfl
  have s1 : w1.cell? ⟨w.heap.size + 1, 1, none⟩ = some (.int .u64 hi) := by rw [cell_of hb]; rfl
  have HK := hid (k0.out.trans hk (fun _ _ h => h))
  have HB0 := hid hb0
  have HB := hid hb
  clear hk hb hb0
  go_wp2_with fail
  refine (scheck_any lo hi).mono ?_
  rw [if_neg (by omega)]
  rintro e w2 ⟨rfl, hk⟩
  have hb2 := hk.at HB0.out (fun h => h)
  have c0 : w2.cell? ⟨w.heap.size, 0, none⟩ = some (.int .u8 d.k) := by rw [cell_of hb2]; rfl
  have c1 : w2.cell? ⟨w.heap.size, 1, none⟩ = some (.int .i64 d.n) := by rw [cell_of hb2]; rfl
  have c2 : w2.cell? ⟨w.heap.size, 2, none⟩ = some (.slice a d.cuts.length c) := by rw [cell_of hb2]; rfl
  have HB2 := hid hb2
  have HBS := hid (hk.at HB.out (fun h => h))
  have HK2 := hid (HK.out.trans hk (fun _ _ h => h))
  clear hk s0 s1 HB HB0 hb2
  go_wp2_with fail
  refine (count_any d HO.out).mono ?_
  rintro e w3 ⟨rfl, hk⟩
  have HB3 := hid (hk.at HB2.out (fun h => h))
  have HBS3 := hid (hk.at HBS.out (fun h => h))
  have HK3 := hid (HK2.out.trans hk (fun _ _ h => h))
  clear hk c0 c1 c2 HB2 HBS
  have himg := hid (show d.img lo hi = bset (d.inImg lo hi) d.cnt from rfl)
  obtain ⟨m, hmc⟩ : ∃ m, m = d.cnt := ⟨_, rfl⟩
  have HM := hid hmc
  rw [← hmc] at hp hp' himg ⊢
  clear hmc
  go_wp2
  go_loopw [8, 24] (fun s i wr => ∃ j : Nat, j ≤ m ∧ i = .int .i64 j ∧ s = .int .u64 (bset (d.inImg lo hi) j : Nat) ∧ Keep Nil w3 wr) (fun _ i _ => m - (intOf i).toNat)
  case atStart => exact ⟨0, Nat.zero_le _, rfl, rfl, Keep.refl _ _⟩
  case round =>
    obtain ⟨j, hj, rfl, rfl, hk4⟩ := hrel
    have K4 := hid hk4
    clear hk4
    by_cases hlt : j < m
    · have hb := bits_64 (d.inImg lo hi) (k := j) (by omega)
      have so := hid (shl_or hb (show j < 64 by omega))
      have hbw := K4.out.at HB3.out (fun h => h)
      have hbsw := K4.out.at HBS3.out (fun h => h)
      have c0 : wr.cell? ⟨w.heap.size, 0, none⟩ = some (.int .u8 d.k) := by rw [cell_of hbw]; rfl
      have c1 : wr.cell? ⟨w.heap.size, 1, none⟩ = some (.int .i64 d.n) := by rw [cell_of hbw]; rfl
      have c2 : wr.cell? ⟨w.heap.size, 2, none⟩ = some (.slice a d.cuts.length c) := by rw [cell_of hbw]; rfl
      have s0 : wr.cell? ⟨w.heap.size + 1, 0, none⟩ = some (.int .u64 lo) := by rw [cell_of hbsw]; rfl
      have HBS4 := hid hbsw
      clear hbw hbsw
      go_wp2_with fail
      refine (least_any d HO.out (rd_keep HD.out (HK3.out.trans K4.out (fun _ _ h => h)) (fun _ _ h => h)) hm HC.out j (by rw [← HM.out]; exact hlt) lo hl0 (by omega)).mono ?_
      rintro e w4 ⟨rfl, hk⟩
      have hbsx := hk.at HBS4.out (fun h => h)
      have s1 : w4.cell? ⟨w.heap.size + 1, 1, none⟩ = some (.int .u64 hi) := by rw [cell_of hbsx]; rfl
      have K5 := hid (K4.out.trans hk (fun _ _ h => h))
      clear hk hbsx c0 c1 c2 s0
      cases hl : d.least j lo with
      | none =>
        have nx := hid (show bset (d.inImg lo hi) (j + 1) = bset (d.inImg lo hi) j by show bset _ j ||| _ = _; rw [inImg_none hl]; simp)
        have HL := hid hl
        clear hl
        rw [show leastV none = .tuple #[.int .u64 0, .bool false] from rfl]
        generalize bset (d.inImg lo hi) j = z at *
        go_wp2
        go_roundw
        case rel => exact ⟨j + 1, by omega, by go_num, by rw [nx.out], K5.out⟩
        case measure => simp [intOf]; omega
      | some y =>
        rw [show leastV (some y) = .tuple #[.int .u64 y, .bool true] from rfl]
        by_cases hy : y ≤ hi
        · have nx := hid (show bset (d.inImg lo hi) (j + 1) = bset (d.inImg lo hi) j ||| 2 ^ j by show bset _ j ||| _ = _; rw [inImg_some hl, if_pos (by simpa using hy)])
          have d1 : decide (y ≤ hi) = true := decide_eq_true hy
          have HL := hid hl
          clear hl hy
          generalize bset (d.inImg lo hi) j = z at *
          go_wp2
          go_roundw
          case rel => exact ⟨j + 1, by omega, by go_num, by rw [nx.out, ← so.out], K5.out⟩
          case measure => simp [intOf]; omega
        · have nx := hid (show bset (d.inImg lo hi) (j + 1) = bset (d.inImg lo hi) j by show bset _ j ||| _ = _; rw [inImg_some hl, if_neg (by simpa using hy)]; simp)
          have d1 : decide (y ≤ hi) = false := decide_eq_false hy
          have HL := hid hl
          clear hl hy
          generalize bset (d.inImg lo hi) j = z at *
          go_wp2
          go_roundw
          case rel => exact ⟨j + 1, by omega, by go_num, by rw [nx.out], K5.out⟩
          case measure => simp [intOf]; omega
    · obtain rfl : j = m := by omega
      rw [← himg.out]
      go_wp2
      go_ret2
      exact ⟨rfl, HK3.out.trans K4.out (fun _ _ h => h)⟩
end
end Go.Proofs.Ytfpobagkananeaa
