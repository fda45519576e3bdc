/- known, long; DomainOf, DomainLeast, DomainImages, DomainParts: the walks. -/
import Derived.Test.YtfpobagkananeaaDomAny
import Derived.Test.YtfpobagkananeaaMembers
namespace Go.Proofs.Ytfpobagkananeaa
open Go.RowKit Go.Lf

/-- What is known of a map that came in. -/
structure DomIn (w : World) (d : Dom) (a : Option Addr) (c : Nat) : Prop where
  rd : Rd w 1 (.slice a d.cuts.length c) d.cuts.length (u64s d.cuts)
  lo : ∀ y ∈ d.cuts, 0 ≤ y
  hi : ∀ y ∈ d.cuts, y ≤ topU
theorem DomIn.keep {w w' : World} {d : Dom} {a : Option Addr} {c : Nat} (h : DomIn w d a c) (hk : Keep Nil w w') : DomIn w' d a c := ⟨rd_keep h.rd hk (fun _ _ h => h), h.lo, h.hi⟩

theorem kn_ok : (Dom.mk 2 7 []).ok := .inr (.inl ⟨rfl, ⟨by decide, by decide⟩, rfl⟩)
theorem kn_of : (Dom.mk 2 7 []).of 23 = 2 := by decide
theorem kn_mems : mems 10 64 = [1, 3] := by decide

set_option maxHeartbeats 1000000 in
theorem known_any (w : World) : Calls Try.prog 14 #[] w fun e w' => e = .returned (.bool true) ∧ Keep Nil w w' := by
  have hof := hid (fun (w : World) => @of_ok none 0 w (Dom.mk 2 7 []) kn_ok ⟨none, 0, rfl, rfl, .inl ⟨rfl, rfl, rfl⟩⟩ (by decide) 23 (by decide) (by decide))
  have hmem := hid (fun (w : World) => members_any 10 (by decide) w)
  go_enter Try.func14, Try.ntmps14
  go_wp2_with fail
  refine (hof.out _).mono ?_
  rw [kn_of]
  rintro e w1 ⟨rfl, hk⟩
  have HK := hid hk
  clear hk
  go_wp2_with fail
  refine (hmem.out _).mono ?_
  rw [kn_mems]
  rintro e w2 ⟨v, rfl, hrd, hk⟩
  obtain ⟨b, off, c, rfl, hc⟩ := Rd.cell hrd (by decide)
  have c0 : w2.cell? ⟨b, off, none⟩ = some (.int .i64 1) := hc 0 _ rfl
  have c1 : w2.cell? ⟨b, off + 1, none⟩ = some (.int .i64 3) := hc 1 _ rfl
  have HK2 := hid (HK.out.trans hk (fun _ _ h => h))
  clear hc hrd hk
  go_wp2
  go_ret
  exact ⟨rfl, HK2.out⟩

section
variable {a : Option Addr} {c : Nat} {w : World}
set_option maxHeartbeats 400000 in
theorem long_any (d : Dom) (b : Bool) (hb : decide (200 < (d.cuts.length : Int)) = b) : Calls Try.prog 15 #[dv d a c] w fun e w' => e = .returned (.bool b) ∧ Keep Nil w w' := by
  have HB := hid hb
  unfold dv
  clear hb
  go_enter Try.func15, Try.ntmps15
  go_wp2
  go_ret
  rw [← HB.out]
  exact ⟨rfl, Keep.alloc (Keep.refl _ _) _⟩

/-- A boxed map, later. -/
structure DBox (w1 : World) (b : Nat) (d : Dom) (a : Option Addr) (c : Nat) : Prop where
  at' : w1.heap[b]? = some (.cells #[.int .u8 d.k, .int .i64 d.n, .slice a d.cuts.length c] 32 (0, 0))
theorem DBox.keep {w1 w2 : World} {b : Nat} {d : Dom} (h : DBox w1 b d a c) (hk : Keep Nil w1 w2) : DBox w2 b d a c := ⟨hk.at h.at' (fun h => h)⟩
theorem DBox.cells {w1 : World} {b : Nat} {d : Dom} (h : DBox w1 b d a c) : w1.cell? ⟨b, 0, none⟩ = some (.int .u8 d.k) ∧ w1.cell? ⟨b, 1, none⟩ = some (.int .i64 d.n) ∧ w1.cell? ⟨b, 2, none⟩ = some (.slice a d.cuts.length c) := by
  refine ⟨?_, ?_, ?_⟩ <;> (rw [cell_of h.at']; rfl)
theorem DBox.new (w : World) (d : Dom) (a : Option Addr) (c : Nat) : DBox (w.alloc (.cells #[.int .u8 d.k, .int .i64 d.n, .slice a d.cuts.length c] 32)) w.heap.size d a c := ⟨heap_alloc_new w _⟩
structure SBox (w1 : World) (b : Nat) (lo hi : Int) : Prop where
  at' : w1.heap[b]? = some (.cells #[.int .u64 lo, .int .u64 hi] 44 (0, 0))
theorem SBox.keep {w1 w2 : World} {b : Nat} {lo hi : Int} (h : SBox w1 b lo hi) (hk : Keep Nil w1 w2) : SBox w2 b lo hi := ⟨hk.at h.at' (fun h => h)⟩
theorem SBox.cells {w1 : World} {b : Nat} {lo hi : Int} (h : SBox w1 b lo hi) : w1.cell? ⟨b, 0, none⟩ = some (.int .u64 lo) ∧ w1.cell? ⟨b, 1, none⟩ = some (.int .u64 hi) := by
  refine ⟨?_, ?_⟩ <;> (rw [cell_of h.at']; rfl)
end

set_option maxHeartbeats 2000000 in
theorem walk_least (w : World) (d : Dom) (a : Option Addr) (c : Nat) (hd : DomIn w d a c) (hm : d.cuts.length ≤ maxLen) (v x : Int) (hx0 : 0 ≤ x) (hx1 : x ≤ topU) :
    Calls Try.prog 5 #[dv d a c, .int .i64 v, .int .u64 x] w fun e w' => e = .returned (.bool true) ∧ Keep Nil w w' := by
  unfold maxLen at hm
  have HD := hid hd
  have hb := DBox.new w d a c
  have HK := hid (Keep.alloc (Keep.refl Nil w) (.cells #[.int .u8 d.k, .int .i64 d.n, .slice a d.cuts.length c] 32 (0, 0)))
  have HB := hid hb
  clear hd hb
  go_enter Try.func5, Try.ntmps5
  unfold dv
  go_wp2_with fail
  by_cases hl : d.cuts.length ≤ 200
  · refine (long_any d false (decide_eq_false (by omega))).mono ?_
    rintro e w1 ⟨rfl, hk⟩
    obtain ⟨c0, c1, c2⟩ := (HB.out.keep hk).cells
    have HB1 := hid (HB.out.keep hk)
    have HK1 := hid (HK.out.trans hk (fun _ _ h => h))
    clear hk
    go_wp2_with fail
    refine (Least_any d (HD.out.keep HK1.out).rd (by omega) HD.out.lo HD.out.hi v x hx0 hx1).mono ?_
    rintro e w2 ⟨rfl, hk⟩
    obtain ⟨c0', c1', c2'⟩ := (HB1.out.keep hk).cells
    have HK2 := hid (HK1.out.trans hk (fun _ _ h => h))
    clear hk c0 c1 c2
    unfold leastT
    go_wp2_with fail
    refine (rLeast_any d (HD.out.keep HK2.out).rd (by omega) HD.out.lo HD.out.hi v x hx0 hx1).mono ?_
    rintro e w3 ⟨rfl, hk⟩
    have HK3 := hid (HK2.out.trans hk (fun _ _ h => h))
    clear hk c0' c1' c2'
    unfold leastT
    have e1 : (((d.leastE v x).getD 0) == ((d.leastE v x).getD 0)) = true := by simp
    have e2 : ((d.leastE v x).isSome == (d.leastE v x).isSome) = true := by simp
    have e3 : (d.leastX v == d.leastX v) = true := by simp
    generalize (d.leastE v x).getD 0 = p at *
    generalize (d.leastE v x).isSome = q at *
    generalize d.leastX v = r at *
    go_wp2
    go_ret
    exact ⟨rfl, HK3.out⟩
  · refine (long_any d true (decide_eq_true (by omega))).mono ?_
    rintro e w1 ⟨rfl, hk⟩
    have HK1 := hid (HK.out.trans hk (fun _ _ h => h))
    clear hk
    go_wp2_with fail
    refine (known_any _).mono ?_
    rintro e w2 ⟨rfl, hk⟩
    have HK2 := hid (HK1.out.trans hk (fun _ _ h => h))
    clear hk
    go_wp2
    go_ret
    exact ⟨rfl, HK2.out⟩

set_option maxHeartbeats 2000000 in
theorem walk_images (w : World) (d : Dom) (a : Option Addr) (c : Nat) (hd : DomIn w d a c) (hm : d.cuts.length ≤ maxLen) (lo hi : Int) (hl0 : 0 ≤ lo) (hl1 : lo ≤ topU) (hh : hi ≤ topU) :
    Calls Try.prog 6 #[dv d a c, .agg #[.int .u64 lo, .int .u64 hi]] w fun e w' => e = .returned (.bool true) ∧ Keep Nil w w' := by
  unfold maxLen at hm
  have HD := hid hd
  have HHH := hid hh
  have HL1 := hid hl1
  clear hd hh hl1
  go_enter Try.func6, Try.ntmps6
  unfold dv
  go_wp2_with fail
  obtain ⟨W, hW⟩ : ∃ W, W = (w.alloc (.cells #[.int .u8 d.k, .int .i64 d.n, .slice a d.cuts.length c] 32)).alloc (.cells #[.int .u64 lo, .int .u64 hi] 44) := ⟨_, rfl⟩
  rw [← hW]
  have HK := hid (show Keep Nil w W from by rw [hW]; exact ((Keep.refl Nil w).alloc _).alloc _)
  have HB := hid (show DBox W w.heap.size d a c from by rw [hW]; exact (DBox.new w d a c).keep ((Keep.refl Nil _).alloc _))
  have HS := hid (show SBox W (w.heap.size + 1) lo hi from by rw [hW]; exact ⟨by have := heap_alloc_new (w.alloc (.cells #[.int .u8 d.k, .int .i64 d.n, .slice a d.cuts.length c] 32)) (.cells #[.int .u64 lo, .int .u64 hi] 44); rwa [World.size_alloc] at this⟩)
  clear hW
  by_cases hl : d.cuts.length ≤ 200
  · refine (long_any d false (decide_eq_false (by omega))).mono ?_
    rintro e w1 ⟨rfl, hk⟩
    obtain ⟨c0, c1, c2⟩ := (HB.out.keep hk).cells
    obtain ⟨s0, s1⟩ := (HS.out.keep hk).cells
    have HB1 := hid (HB.out.keep hk)
    have HS1 := hid (HS.out.keep hk)
    have HK1 := hid (HK.out.trans hk (fun _ _ h => h))
    clear hk
    go_wp2_with fail
    refine (image_any d (HD.out.keep HK1.out).rd (by omega) HD.out.lo HD.out.hi lo hi hl0 HL1.out HHH.out).mono ?_
    rintro e w2 ⟨rfl, hk⟩
    obtain ⟨c0', c1', c2'⟩ := (HB1.out.keep hk).cells
    obtain ⟨s0', s1'⟩ := (HS1.out.keep hk).cells
    have HK2 := hid (HK1.out.trans hk (fun _ _ h => h))
    clear hk c0 c1 c2 s0 s1
    go_wp2_with fail
    refine (rimage_any d (HD.out.keep HK2.out).rd (by omega) HD.out.lo HD.out.hi lo hi hl0 HL1.out HHH.out).mono ?_
    rintro e w3 ⟨rfl, hk⟩
    have HK3 := hid (HK2.out.trans hk (fun _ _ h => h))
    clear hk c0' c1' c2' s0' s1'
    have e1 : (d.imgE lo hi == d.imgE lo hi) = true := by simp
    have e3 : (d.imgX lo hi == d.imgX lo hi) = true := by simp
    generalize d.imgE lo hi = p at *
    generalize d.imgX lo hi = r at *
    go_wp2
    go_ret
    exact ⟨rfl, HK3.out⟩
  · refine (long_any d true (decide_eq_true (by omega))).mono ?_
    rintro e w1 ⟨rfl, hk⟩
    have HK1 := hid (HK.out.trans hk (fun _ _ h => h))
    clear hk
    go_wp2_with fail
    refine (known_any _).mono ?_
    rintro e w2 ⟨rfl, hk⟩
    have HK2 := hid (HK1.out.trans hk (fun _ _ h => h))
    clear hk
    go_wp2
    go_ret
    exact ⟨rfl, HK2.out⟩
end Go.Proofs.Ytfpobagkananeaa
