
/- domain: count, Values, Of, All: contracts. -/
import Derived.Test.YtjghenomeindcaaGreatDomCheck
import Derived.IntWalk
namespace Go.Proofs.YtjghenomeindcaaGreat
open Go.RowKit Go.Lf

theorem ret_num' {k : IntKind} {a b : Int} (h : a = b) : Ending.returned (.int k a) = .returned (.int k b) := by rw [h]
theorem ret_num2 {k : IntKind} {a b : Int} {v : Value} (h : a = b) : Ending.returned (.tuple #[.int k a, v]) = .returned (.tuple #[.int k b, v]) := by rw [h]

section
variable {a : Option Addr} {c : Nat} {w : World}

/-- The cells of a boxed map. -/
theorem box3 {w1 : World} {x y z : Value} {t : TypeId} (hk : Keep Nil (w.alloc (.cells #[x, y, z] t (0, 0))) w1) : w1.cell? ⟨w.heap.size, 0, none⟩ = some x ∧ w1.cell? ⟨w.heap.size, 1, none⟩ = some y ∧ w1.cell? ⟨w.heap.size, 2, none⟩ = some z := by
  have h := hk.at (heap_alloc_new w _) (fun h => h)
  refine ⟨?_, ?_, ?_⟩ <;> (rw [cell_of h]; rfl)

set_option maxHeartbeats 400000 in
theorem count_any (d : Dom) (h : d.ok) : Calls Tryz.prog 124 #[dv d a c] w fun e w' => e = .returned (.int .i64 d.cnt) ∧ Keep Nil w w' := by
  obtain ⟨k, n, cuts⟩ := d
  unfold dv
  simp only
  rcases h with ⟨h1, h2, h3⟩ | ⟨h1, h2, h3⟩ | ⟨h1, h2, h3, h4⟩
  · simp only at h1 h2 h3
    subst h1 h2 h3
    go_enter Tryz.func124, Tryz.ntmps124
    go_wp2
    go_ret
    exact ⟨rfl, Keep.alloc (Keep.refl _ _) _⟩
  · simp only at h1 h2 h3
    subst h1 h3
    go_enter Tryz.func124, Tryz.ntmps124
    go_wp2
    go_ret
    exact ⟨ret_num' (by simp only [Dom.cnt, if_true]; omega), Keep.alloc (Keep.refl _ _) _⟩
  · simp only at h1 h2 h3 h4
    have HA := hid h4
    clear h4
    subst h1 h2
    go_enter Tryz.func124, Tryz.ntmps124
    go_wp2
    go_ret
    exact ⟨ret_num' (by simp [Dom.cnt]), Keep.alloc (Keep.refl _ _) _⟩

set_option maxHeartbeats 400000 in
theorem values_ok (d : Dom) (h : d.ok) (hrd : Rd w 1 (.slice a d.cuts.length c) d.cuts.length (u64s d.cuts)) (hm : d.cuts.length ≤ 1000000) :
    Calls Tryz.prog 70 #[dv d a c] w fun e w' => e = .returned (.tuple #[.int .i64 d.cnt, .int .i64 0]) ∧ Keep Nil w w' := by
  have HD := hid hrd
  have HO := hid h
  clear hrd h
  go_enter Tryz.func70, Tryz.ntmps70
  unfold dv
  go_wp2_with fail
  refine (dcheck_any d (rd_keep HD.out (Keep.alloc (Keep.refl Nil _) _) (fun _ _ h => h)) hm).mono ?_
  rw [Dom.err_ok HO.out]
  rintro e w1 ⟨rfl, hk⟩
  obtain ⟨c0, c1, c2⟩ := box3 hk
  have HK := hid hk
  clear hk
  go_wp2_with fail
  refine (count_any d HO.out).mono ?_
  rintro e w2 ⟨rfl, hk⟩
  have HK2 := hid hk
  clear hk
  go_wp2
  go_ret2
  exact ⟨rfl, ((Keep.refl Nil w).alloc _).trans (HK.out.trans HK2.out (fun _ _ h => h)) (fun _ _ h => h)⟩

set_option maxHeartbeats 400000 in
theorem values_bad_all (d : Dom) (h : ¬ d.ok) (hrd : Rd w 1 (.slice a d.cuts.length c) d.cuts.length (u64s d.cuts)) :
    Calls Tryz.prog 70 #[dv d a c] w fun e w' => e = .returned (.tuple #[.int .i64 0, .int .i64 2]) ∧ Keep Nil w w' := by
  have HD := hid hrd
  have HO := hid h
  clear hrd h
  go_enter Tryz.func70, Tryz.ntmps70
  unfold dv
  go_wp2_with fail
  refine (check_all d (rd_keep HD.out (Keep.alloc (Keep.refl Nil _) _) (fun _ _ h => h))).mono ?_
  rw [Dom.err_bad HO.out]
  rintro e w1 ⟨rfl, hk⟩
  have HK := hid hk
  clear hk
  go_wp2
  go_ret2
  exact ⟨rfl, ((Keep.refl Nil w).alloc _).trans HK.out (fun _ _ h => h)⟩

theorem values_bad (d : Dom) (h : ¬ d.ok) (hrd : Rd w 1 (.slice a d.cuts.length c) d.cuts.length (u64s d.cuts)) (_ : d.cuts.length ≤ 1000000) :
    Calls Tryz.prog 70 #[dv d a c] w fun e w' => e = .returned (.tuple #[.int .i64 0, .int .i64 2]) ∧ Keep Nil w w' := values_bad_all d h hrd

theorem mod_of {key n : Int} (h : 1 ≤ n ∧ n ≤ 64) : wrap64 (key % n) = ((key % n).toNat : Int) := by
  have := Int.emod_nonneg key (show n ≠ 0 by omega)
  have := Int.emod_lt_of_pos key (show 0 < n by omega)
  unfold wrap64
  omega

theorem shl_or {s v : Nat} (hs : s < 18446744073709551616) (hv : v < 64) : Go.bits .or .u64 (s : Int) (IntKind.u64.wrap (2 ^ v : Int)) = ((s ||| 2 ^ v : Nat) : Int) := by
  rw [wrap_pow hv, bits_or_u64 hs (pow_lt64 hv)]

end
end Go.Proofs.YtjghenomeindcaaGreat
