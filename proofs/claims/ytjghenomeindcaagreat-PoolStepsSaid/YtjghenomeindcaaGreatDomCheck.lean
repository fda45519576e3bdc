
/- domain: Check, ascending, count, Values; and those of the reference: contracts. -/
import Derived.Test.YtjghenomeindcaaGreatProg
import Derived.Test.YtjghenomeindcaaGreatBase
import Derived.Test.YtjghenomeindcaaGreatDomPlain
import Derived.Deep.QuietTactic
import Derived.IntWalk
namespace Go.Proofs.YtjghenomeindcaaGreat
open Go.RowKit Go.Lf

/-- A map as a value. -/
def dv (d : Dom) (a : Option Addr) (c : Nat) : Value := .agg #[.int .u8 d.k, .int .i64 d.n, .slice a d.cuts.length c]

section
variable {cuts : List Int} {a : Option Addr} {c : Nat} {w : World}

theorem rd_cut (hrd : Rd w 1 (.slice a cuts.length c) cuts.length (u64s cuts)) {i : Nat} (hi : i < cuts.length) : ∃ b off, a = some ⟨b, off, none⟩ ∧ ∀ j, j < cuts.length → w.cell? ⟨b, off + j, none⟩ = some (.int .u64 (gcut cuts j)) := by
  obtain ⟨b, off, c', hv, hc⟩ := Rd.cell hrd (by omega)
  simp only [Value.slice.injEq] at hv
  exact ⟨b, off, hv.1, fun j hj => hc j _ (u64s_at (gcut_at hj))⟩

set_option maxHeartbeats 400000 in
theorem asc_any (hrd : Rd w 1 (.slice a cuts.length c) cuts.length (u64s cuts)) (hm : cuts.length ≤ 1000000) (r : Bool) (hr : r = true ↔ AscTo cuts cuts.length) :
    Calls Tryz.prog 151 #[.slice a cuts.length c] w fun e w' => e = .returned (.bool r) ∧ w = w' := by
  have HR := hid hr
  have HD := hid hrd
  clear hr hrd
  go_enter Tryz.func151, Tryz.ntmps151
  go_wp2
  go_loop [3, 8] (fun b i => ∃ k : Nat, k ≤ cuts.length ∧ i = .int .i64 k ∧ b = .int .u64 (prv cuts k) ∧ AscTo cuts k) (fun _ i => cuts.length - (intOf i).toNat)
  case atStart => exact ⟨0, Nat.zero_le _, rfl, rfl, AscTo.zero _⟩
  case round =>
    obtain ⟨k, hk, rfl, rfl, ha⟩ := hrel
    have HA := hid ha
    clear ha
    by_cases hlt : k < cuts.length
    · obtain ⟨b, off, rfl, hc⟩ := rd_cut HD.out hlt
      have hck := hc k hlt
      clear hc
      by_cases hle : gcut cuts k ≤ prv cuts k
      · have d1 : decide (gcut cuts k ≤ prv cuts k) = true := decide_eq_true hle
        have hrf : r = false := by
          rw [Bool.eq_false_iff]
          intro h
          exact Dom.bad_asc hlt hle (HR.out.1 h)
        subst hrf
        clear hle
        go_wp2
        go_ret
        exact ⟨rfl, rfl⟩
      · have d1 : decide (gcut cuts k ≤ prv cuts k) = false := decide_eq_false hle
        have HN := hid (HA.out.succ (by omega))
        clear hle
        go_wp2
        go_round
        case rel => exact ⟨k + 1, by omega, by go_num, by rw [prv_succ], HN.out⟩
        case measure => simp [intOf]; omega
    · obtain rfl : k = cuts.length := by omega
      have hrf : r = true := HR.out.2 HA.out
      subst hrf
      go_wp2
      go_ret
      exact ⟨rfl, rfl⟩
end

section
variable {a : Option Addr} {c : Nat} {w : World}

set_option maxHeartbeats 2000000 in
theorem check_all (d : Dom) (hrd : Rd w 1 (.slice a d.cuts.length c) d.cuts.length (u64s d.cuts)) :
    Calls Tryz.prog 123 #[dv d a c] w fun e w' => e = .returned (.int .i64 d.err) ∧ Keep Nil w w' := by
  obtain ⟨k, n, cuts⟩ := d
  unfold dv
  simp only at hrd ⊢
  have HD := hid hrd
  clear hrd
  by_cases h1 : k = 1
  · subst h1
    by_cases h2 : n = 0
    · subst h2
      by_cases h3 : cuts.length = 0
      · rw [Dom.err_ok (.inl ⟨rfl, rfl, List.eq_nil_of_length_eq_zero h3⟩)]
        have d3 : ((cuts.length : Int) == 0) = true := beq_iff_eq.2 (by omega)
        clear h3
        go_enter Tryz.func123, Tryz.ntmps123
        go_wp2
        go_ret
        exact ⟨rfl, Keep.alloc (Keep.refl _ _) _⟩
      · rw [Dom.err_bad (Dom.bad1 ⟨rfl, .inr h3⟩)]
        have d3 : ((cuts.length : Int) == 0) = false := beq_eq_false_iff_ne.2 (by omega)
        clear h3
        go_enter Tryz.func123, Tryz.ntmps123
        go_wp2
        go_ret
        exact ⟨rfl, Keep.alloc (Keep.refl _ _) _⟩
    · rw [Dom.err_bad (Dom.bad1 ⟨rfl, .inl h2⟩)]
      have d2 : (n == 0) = false := beq_eq_false_iff_ne.2 h2
      clear h2
      go_enter Tryz.func123, Tryz.ntmps123
      go_wp2
      go_ret
      exact ⟨rfl, Keep.alloc (Keep.refl _ _) _⟩
  by_cases h2 : k = 2
  · subst h2
    by_cases h3 : 1 ≤ n
    · have d3 : decide (1 ≤ n) = true := decide_eq_true h3
      by_cases h4 : n ≤ 64
      · have d4 : decide (n ≤ 64) = true := decide_eq_true h4
        by_cases h5 : cuts.length = 0
        · rw [Dom.err_ok (.inr (.inl ⟨rfl, ⟨h3, h4⟩, List.eq_nil_of_length_eq_zero h5⟩))]
          have d5 : ((cuts.length : Int) == 0) = true := beq_iff_eq.2 (by omega)
          clear h1 h3 h4 h5
          go_enter Tryz.func123, Tryz.ntmps123
          go_wp2
          go_ret
          exact ⟨rfl, Keep.alloc (Keep.refl _ _) _⟩
        · rw [Dom.err_bad (Dom.bad2 ⟨rfl, .inr (.inr h5)⟩)]
          have d5 : ((cuts.length : Int) == 0) = false := beq_eq_false_iff_ne.2 (by omega)
          clear h1 h3 h4 h5
          go_enter Tryz.func123, Tryz.ntmps123
          go_wp2
          go_ret
          exact ⟨rfl, Keep.alloc (Keep.refl _ _) _⟩
      · have d4 : decide (n ≤ 64) = false := decide_eq_false h4
        rw [Dom.err_bad (Dom.bad2 ⟨rfl, .inr (.inl (by omega))⟩)]
        clear h1 h3 h4
        go_enter Tryz.func123, Tryz.ntmps123
        go_wp2
        go_ret
        exact ⟨rfl, Keep.alloc (Keep.refl _ _) _⟩
    · have d3 : decide (1 ≤ n) = false := decide_eq_false h3
      rw [Dom.err_bad (Dom.bad2 ⟨rfl, .inl (by omega)⟩)]
      clear h1 h3
      go_enter Tryz.func123, Tryz.ntmps123
      go_wp2
      go_ret
      exact ⟨rfl, Keep.alloc (Keep.refl _ _) _⟩
  by_cases h3 : k = 3
  · subst h3
    by_cases h4 : n = 0
    · subst h4
      by_cases h5 : 1 ≤ cuts.length
      · have d5 : decide (1 ≤ (cuts.length : Int)) = true := decide_eq_true (by omega)
        by_cases h6 : cuts.length < 64
        · have d6 : decide ((cuts.length : Int) < 64) = true := decide_eq_true (by omega)
          by_cases h7 : AscTo cuts cuts.length
          · rw [Dom.err_ok (.inr (.inr ⟨rfl, rfl, ⟨h5, by simp only; omega⟩, h7⟩))]
            have HA := hid h7
            have hm : cuts.length ≤ 1000000 := by omega
            clear h1 h2 h7 h5 h6
            go_enter Tryz.func123, Tryz.ntmps123
            go_wp2_with fail
            refine (asc_any (rd_keep HD.out (Keep.alloc (Keep.refl Nil _) _) (fun _ _ h => h)) hm true ⟨fun _ => HA.out, fun _ => rfl⟩).mono ?_
            rintro e w' ⟨rfl, rfl⟩
            go_wp2
            go_ret
            exact ⟨rfl, Keep.alloc (Keep.refl _ _) _⟩
          · rw [Dom.err_bad (Dom.bad3 ⟨rfl, .inr (.inr (.inr h7))⟩)]
            have HA := hid h7
            have hm : cuts.length ≤ 1000000 := by omega
            clear h1 h2 h7 h5 h6
            go_enter Tryz.func123, Tryz.ntmps123
            go_wp2_with fail
            refine (asc_any (rd_keep HD.out (Keep.alloc (Keep.refl Nil _) _) (fun _ _ h => h)) hm false ⟨fun h => (by cases h), fun h => absurd h HA.out⟩).mono ?_
            rintro e w' ⟨rfl, rfl⟩
            go_wp2
            go_ret
            exact ⟨rfl, Keep.alloc (Keep.refl _ _) _⟩
        · have d6 : decide ((cuts.length : Int) < 64) = false := decide_eq_false (by omega)
          rw [Dom.err_bad (Dom.bad3 ⟨rfl, .inr (.inr (.inl (by omega)))⟩)]
          clear h1 h2 h5 h6
          go_enter Tryz.func123, Tryz.ntmps123
          go_wp2
          go_ret
          exact ⟨rfl, Keep.alloc (Keep.refl _ _) _⟩
      · have d5 : decide (1 ≤ (cuts.length : Int)) = false := decide_eq_false (by omega)
        rw [Dom.err_bad (Dom.bad3 ⟨rfl, .inr (.inl (by omega))⟩)]
        clear h1 h2 h5
        go_enter Tryz.func123, Tryz.ntmps123
        go_wp2
        go_ret
        exact ⟨rfl, Keep.alloc (Keep.refl _ _) _⟩
    · rw [Dom.err_bad (Dom.bad3 ⟨rfl, .inl h4⟩)]
      have d4 : (n == 0) = false := beq_eq_false_iff_ne.2 h4
      clear h1 h2 h4
      go_enter Tryz.func123, Tryz.ntmps123
      go_wp2
      go_ret
      exact ⟨rfl, Keep.alloc (Keep.refl _ _) _⟩
  · rw [Dom.err_bad (Dom.bad4 ⟨h1, h2, h3⟩)]
    have d1 : (k == 1) = false := beq_eq_false_iff_ne.2 h1
    have d2 : (k == 2) = false := beq_eq_false_iff_ne.2 h2
    have d3 : (k == 3) = false := beq_eq_false_iff_ne.2 h3
    clear h1 h2 h3
    go_enter Tryz.func123, Tryz.ntmps123
    go_wp2
    go_ret
    exact ⟨rfl, Keep.alloc (Keep.refl _ _) _⟩
theorem dcheck_any (d : Dom) (hrd : Rd w 1 (.slice a d.cuts.length c) d.cuts.length (u64s d.cuts)) (_ : d.cuts.length ≤ 1000000) :
    Calls Tryz.prog 123 #[dv d a c] w fun e w' => e = .returned (.int .i64 d.err) ∧ Keep Nil w w' := check_all d hrd
end
end Go.Proofs.YtjghenomeindcaaGreat

/-! domain: count, Values, Of, All: contracts. -/
namespace Go.Proofs.YtjghenomeindcaaGreat
open Go.RowKit Go.Lf

theorem ret_num' {k : IntKind} {a b : Int} (h : a = b) : Ending.returned (.int k a) = .returned (.int k b) := by rw [h]
theorem ret_num2 {k : IntKind} {a b : Int} {v : Value} (h : a = b) : Ending.returned (.tuple #[.int k a, v]) = .returned (.tuple #[.int k b, v]) := by rw [h]

section
variable {a : Option Addr} {c : Nat} {w : World}

/-- The cells of a boxed map. -/
theorem box3 {w1 : World} {x y z : Value} {t : TypeId} (hk : Keep Nil (w.alloc (.cells #[x, y, z] t (0, 0))) w1) : w1.cell? ⟨w.heap.size, 0, none⟩ = some x ∧ w1.cell? ⟨w.heap.size, 1, none⟩ = some y ∧ w1.cell? ⟨w.heap.size, 2, none⟩ = some z := by
  have h := hk.at (heap_alloc_new w _) (fun h => h)
  refine ⟨?_, ?_, ?_⟩ <;> (rw [cell_of h]; rfl)

set_option maxHeartbeats 400000 in
theorem count_any (d : Dom) (h : d.ok) : Calls Tryz.prog 124 #[dv d a c] w fun e w' => e = .returned (.int .i64 d.cnt) ∧ Keep Nil w w' := by
  obtain ⟨k, n, cuts⟩ := d
  unfold dv
  simp only
  rcases h with ⟨h1, h2, h3⟩ | ⟨h1, h2, h3⟩ | ⟨h1, h2, h3, h4⟩
  · simp only at h1 h2 h3
    subst h1 h2 h3
    go_enter Tryz.func124, Tryz.ntmps124
    go_wp2
    go_ret
    exact ⟨rfl, Keep.alloc (Keep.refl _ _) _⟩
  · simp only at h1 h2 h3
    subst h1 h3
    go_enter Tryz.func124, Tryz.ntmps124
    go_wp2
    go_ret
    exact ⟨ret_num' (by simp only [Dom.cnt, if_true]; omega), Keep.alloc (Keep.refl _ _) _⟩
  · simp only at h1 h2 h3 h4
    have HA := hid h4
    clear h4
    subst h1 h2
    go_enter Tryz.func124, Tryz.ntmps124
    go_wp2
    go_ret
    exact ⟨ret_num' (by simp [Dom.cnt]), Keep.alloc (Keep.refl _ _) _⟩

set_option maxHeartbeats 400000 in
theorem values_ok (d : Dom) (h : d.ok) (hrd : Rd w 1 (.slice a d.cuts.length c) d.cuts.length (u64s d.cuts)) (hm : d.cuts.length ≤ 1000000) :
    Calls Tryz.prog 70 #[dv d a c] w fun e w' => e = .returned (.tuple #[.int .i64 d.cnt, .int .i64 0]) ∧ Keep Nil w w' := by
  have HD := hid hrd
  have HO := hid h
  clear hrd h
  go_enter Tryz.func70, Tryz.ntmps70
  unfold dv
  go_wp2_with fail
  refine (dcheck_any d (rd_keep HD.out (Keep.alloc (Keep.refl Nil _) _) (fun _ _ h => h)) hm).mono ?_
  rw [Dom.err_ok HO.out]
  rintro e w1 ⟨rfl, hk⟩
  obtain ⟨c0, c1, c2⟩ := box3 hk
  have HK := hid hk
  clear hk
  go_wp2_with fail
  refine (count_any d HO.out).mono ?_
  rintro e w2 ⟨rfl, hk⟩
  have HK2 := hid hk
  clear hk
  go_wp2
  go_ret2
  exact ⟨rfl, ((Keep.refl Nil w).alloc _).trans (HK.out.trans HK2.out (fun _ _ h => h)) (fun _ _ h => h)⟩

set_option maxHeartbeats 400000 in
theorem values_bad_all (d : Dom) (h : ¬ d.ok) (hrd : Rd w 1 (.slice a d.cuts.length c) d.cuts.length (u64s d.cuts)) :
    Calls Tryz.prog 70 #[dv d a c] w fun e w' => e = .returned (.tuple #[.int .i64 0, .int .i64 2]) ∧ Keep Nil w w' := by
  have HD := hid hrd
  have HO := hid h
  clear hrd h
  go_enter Tryz.func70, Tryz.ntmps70
  unfold dv
  go_wp2_with fail
  refine (check_all d (rd_keep HD.out (Keep.alloc (Keep.refl Nil _) _) (fun _ _ h => h))).mono ?_
  rw [Dom.err_bad HO.out]
  rintro e w1 ⟨rfl, hk⟩
  have HK := hid hk
  clear hk
  go_wp2
  go_ret2
  exact ⟨rfl, ((Keep.refl Nil w).alloc _).trans HK.out (fun _ _ h => h)⟩

theorem values_bad (d : Dom) (h : ¬ d.ok) (hrd : Rd w 1 (.slice a d.cuts.length c) d.cuts.length (u64s d.cuts)) (_ : d.cuts.length ≤ 1000000) :
    Calls Tryz.prog 70 #[dv d a c] w fun e w' => e = .returned (.tuple #[.int .i64 0, .int .i64 2]) ∧ Keep Nil w w' := values_bad_all d h hrd

theorem mod_of {key n : Int} (h : 1 ≤ n ∧ n ≤ 64) : wrap64 (key % n) = ((key % n).toNat : Int) := by
  have := Int.emod_nonneg key (show n ≠ 0 by omega)
  have := Int.emod_lt_of_pos key (show 0 < n by omega)
  unfold wrap64
  omega

theorem shl_or {s v : Nat} (hs : s < 18446744073709551616) (hv : v < 64) : Go.bits .or .u64 (s : Int) (IntKind.u64.wrap (2 ^ v : Int)) = ((s ||| 2 ^ v : Nat) : Int) := by
  rw [wrap_pow hv, bits_or_u64 hs (pow_lt64 hv)]

end
end Go.Proofs.YtjghenomeindcaaGreat
