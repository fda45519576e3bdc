
/- The reference's domain: Check, Values, Of, Bit, All: contracts. -/
import Derived.Test.YtjghenomeindcaaGreatDomLeast
import Derived.BigQuiet
namespace Go.Proofs.YtjghenomeindcaaGreat
open Go.RowKit Go.Lf

section
variable {a : Option Addr} {c : Nat} {w : World}

set_option maxHeartbeats 2000000 in
theorem drcheck_any (d : Dom) (hrd : Rd w 1 (.slice a d.cuts.length c) d.cuts.length (u64s d.cuts)) (hm : d.cuts.length ≤ 1000000) (hn : ∀ y ∈ d.cuts, 0 ≤ y) :
    Calls Tryz.prog 125 #[dv d a c] w fun e w' => e = .returned (.int .i64 d.err) ∧ Keep Nil w w' := by
  obtain ⟨k, n, cuts⟩ := d
  unfold dv
  simp only at hrd hm hn ⊢
  have HD := hid hrd
  have hnn : ∀ j, j < cuts.length → 0 ≤ gcut cuts j := fun j hj => hn _ (List.mem_of_getElem? (gcut_at hj))
  clear hrd hn
  by_cases h1 : k = 1
  · subst h1
    by_cases h2 : n = 0
    · subst h2
      by_cases h3 : cuts.length = 0
      · rw [Dom.err_ok (.inl ⟨rfl, rfl, List.eq_nil_of_length_eq_zero h3⟩)]
        have d3 : ((cuts.length : Int) == 0) = true := beq_iff_eq.2 (by omega)
        clear h3
        go_enter Tryz.func125, Tryz.ntmps125
        go_wp2
        go_ret
        exact ⟨rfl, Keep.alloc (Keep.refl _ _) _⟩
      · rw [Dom.err_bad (Dom.bad1 ⟨rfl, .inr h3⟩)]
        have d3 : ((cuts.length : Int) == 0) = false := beq_eq_false_iff_ne.2 (by omega)
        clear h3
        go_enter Tryz.func125, Tryz.ntmps125
        go_wp2
        go_ret
        exact ⟨rfl, Keep.alloc (Keep.refl _ _) _⟩
    · rw [Dom.err_bad (Dom.bad1 ⟨rfl, .inl h2⟩)]
      have d2 : (n == 0) = false := beq_eq_false_iff_ne.2 h2
      clear h2
      go_enter Tryz.func125, Tryz.ntmps125
      go_wp2
      go_ret
      exact ⟨rfl, Keep.alloc (Keep.refl _ _) _⟩
  by_cases h2 : k = 2
  · subst h2
    by_cases h3 : 1 ≤ n
    · have d3 : decide (1 ≤ n) = true := decide_eq_true h3
      by_cases h4 : n ≤ 64
      · have d4 : decide (n ≤ 64) = true := decide_eq_true h4
        by_cases h5 : cuts.length = 0
        · rw [Dom.err_ok (.inr (.inl ⟨rfl, ⟨h3, h4⟩, List.eq_nil_of_length_eq_zero h5⟩))]
          have d5 : ((cuts.length : Int) == 0) = true := beq_iff_eq.2 (by omega)
          clear h1 h3 h4 h5
          go_enter Tryz.func125, Tryz.ntmps125
          go_wp2
          go_ret
          exact ⟨rfl, Keep.alloc (Keep.refl _ _) _⟩
        · rw [Dom.err_bad (Dom.bad2 ⟨rfl, .inr (.inr h5)⟩)]
          have d5 : ((cuts.length : Int) == 0) = false := beq_eq_false_iff_ne.2 (by omega)
          clear h1 h3 h4 h5
          go_enter Tryz.func125, Tryz.ntmps125
          go_wp2
          go_ret
          exact ⟨rfl, Keep.alloc (Keep.refl _ _) _⟩
      · have d4 : decide (n ≤ 64) = false := decide_eq_false h4
        rw [Dom.err_bad (Dom.bad2 ⟨rfl, .inr (.inl (by omega))⟩)]
        clear h1 h3 h4
        go_enter Tryz.func125, Tryz.ntmps125
        go_wp2
        go_ret
        exact ⟨rfl, Keep.alloc (Keep.refl _ _) _⟩
    · have d3 : decide (1 ≤ n) = false := decide_eq_false h3
      rw [Dom.err_bad (Dom.bad2 ⟨rfl, .inl (by omega)⟩)]
      clear h1 h3
      go_enter Tryz.func125, Tryz.ntmps125
      go_wp2
      go_ret
      exact ⟨rfl, Keep.alloc (Keep.refl _ _) _⟩
  by_cases h3 : k = 3
  · subst h3
    by_cases h4 : n = 0
    · subst h4
      by_cases h5 : cuts.length < 1
      · have d5 : decide ((cuts.length : Int) < 1) = true := decide_eq_true (by omega)
        rw [Dom.err_bad (Dom.bad3 ⟨rfl, .inr (.inl h5)⟩)]
        clear h1 h2 h5
        go_enter Tryz.func125, Tryz.ntmps125
        go_wp2
        go_ret
        exact ⟨rfl, Keep.alloc (Keep.refl _ _) _⟩
      · have d5 : decide ((cuts.length : Int) < 1) = false := decide_eq_false (by omega)
        by_cases h6 : 63 < cuts.length
        · have d6 : decide (63 < (cuts.length : Int)) = true := decide_eq_true (by omega)
          rw [Dom.err_bad (Dom.bad3 ⟨rfl, .inr (.inr (.inl h6))⟩)]
          clear h1 h2 h5 h6
          go_enter Tryz.func125, Tryz.ntmps125
          go_wp2
          go_ret
          exact ⟨rfl, Keep.alloc (Keep.refl _ _) _⟩
        · have d6 : decide (63 < (cuts.length : Int)) = false := decide_eq_false (by omega)
          obtain ⟨b, off, rfl, hcell⟩ := rd_cut HD.out (i := 0) (by omega)
          have hce : ∀ j, j < cuts.length → (w.alloc (.cells #[.int .u8 3, .int .i64 0, .slice (some ⟨b, off, none⟩) cuts.length c] 39)).cell? ⟨b, off + j, none⟩ = some (.int .u64 (gcut cuts j)) := fun j hj => (Keep.alloc (Keep.refl Nil w) _).cell (hcell j hj) (fun h => h)
          have hc0 : (w.alloc (.cells #[.int .u8 3, .int .i64 0, .slice (some ⟨b, off, none⟩) cuts.length c] 39)).cell? ⟨b, off, none⟩ = some (.int .u64 (gcut cuts 0)) := hce 0 (by omega)
          have hpl : 0 < cuts.length := by omega
          by_cases h7 : gcut cuts 0 = 0
          · rw [Dom.err_bad (Dom.bad3 ⟨rfl, .inr (.inr (.inr (Dom.bad_asc (i := 0) (by omega) (by rw [prv_zero, h7]; omega))))⟩)]
            have d7 : (gcut cuts 0 == 0) = true := beq_iff_eq.2 h7
            clear h1 h2 h5 h6 h7 hcell hce
            generalize gcut cuts 0 = g at *
            go_enter Tryz.func125, Tryz.ntmps125
            go_wp2
            go_ret
            exact ⟨rfl, Keep.alloc (Keep.refl _ _) _⟩
          · have d7 : (gcut cuts 0 == 0) = false := beq_eq_false_iff_ne.2 h7
            have hg0 : 0 ≤ gcut cuts 0 := hnn 0 (by omega)
            have ha1 := hid (show AscTo cuts 1 from (AscTo.zero cuts).succ (by rw [prv_zero]; omega))
            have HCE := hid hce
            have herr := hid (rfl : (Dom.mk 3 0 cuts).err = (Dom.mk 3 0 cuts).err)
            obtain ⟨r, hr⟩ : ∃ r, r = (Dom.mk 3 0 cuts).err := ⟨_, rfl⟩
            have HR := hid hr
            rw [← hr]
            clear h1 h2 h5 h7 hcell hce hr herr hg0 hnn
            go_enter Tryz.func125, Tryz.ntmps125
            go_wp2
            obtain ⟨W, hW⟩ : ∃ W, W = w.alloc (.cells #[.int .u8 3, .int .i64 0, .slice (some ⟨b, off, none⟩) cuts.length c] 39) := ⟨_, rfl⟩
            rw [← hW] at HCE hc0 ⊢
            have KW := hid (show Keep Nil w W from by rw [hW]; exact Keep.alloc (Keep.refl _ _) _)
            have c2 : W.cell? ⟨w.heap.size, 2, none⟩ = some (.slice (some ⟨b, off, none⟩) cuts.length c) := by rw [hW, cell_of (heap_alloc_new w _)]; rfl
            have C2 := hid c2
            clear hW c2
            go_loopw [3] (fun i wr => ∃ k : Nat, 1 ≤ k ∧ k ≤ cuts.length ∧ i = .int .i64 k ∧ AscTo cuts k ∧ Keep Nil W wr) (fun i _ => cuts.length - (intOf i).toNat)
            case atStart => exact ⟨1, by omega, by omega, rfl, ha1.out, Keep.refl _ _⟩
            case round =>
              obtain ⟨k, hk1, hk, rfl, hA, hkw⟩ := hrel
              have HA := hid hA
              have HKW := hid hkw
              have c2 := hkw.cell C2.out (fun h => h)
              clear hA hkw hc0
              by_cases hlt : k < cuts.length
              · obtain ⟨u, rfl⟩ : ∃ u, k = u + 1 := ⟨k - 1, by omega⟩
                have q1 : wr.cell? ⟨b, off + (u + 1), none⟩ = some (.int .u64 (gcut cuts (u + 1))) := HKW.out.cell (HCE.out _ hlt) (fun h => h)
                have q0 : wr.cell? ⟨b, off + u, none⟩ = some (.int .u64 (gcut cuts u)) := HKW.out.cell (HCE.out _ (by omega)) (fun h => h)
                have hps : prv cuts (u + 1) = gcut cuts u := prv_succ _ _
                have i0 : (0 : Int) ≤ (u : Int) := by omega
                have i1 : (u : Int) < (cuts.length : Int) := by omega
                have i2 : (u : Int) + 1 < (cuts.length : Int) := by omega
                have d1 : decide ((u : Int) + 1 < (cuts.length : Int)) = true := decide_eq_true i2
                by_cases hle : gcut cuts (u + 1) ≤ gcut cuts u
                · have d2 : decide (gcut cuts (u + 1) ≤ gcut cuts u) = true := decide_eq_true hle
                  have hrv := hid (HR.out.trans (Dom.err_bad (Dom.bad3 ⟨rfl, .inr (.inr (.inr (Dom.bad_asc hlt (by rw [hps]; exact hle))))⟩)))
                  clear hle hps
                  go_wp2
                  go_quiet (fail)
                  go_wp2
                  go_ret
                  rw [hrv.out]
                  exact ⟨rfl, KW.out.trans (HKW.out.drewN _) (fun _ _ h => h)⟩
                · have d2 : decide (gcut cuts (u + 1) ≤ gcut cuts u) = false := decide_eq_false hle
                  have HN := hid (HA.out.succ (by rw [hps]; omega))
                  clear hle hps
                  go_wp2
                  go_quiet (fail)
                  go_wp2
                  go_roundw
                  case rel => exact ⟨u + 1 + 1, by omega, by omega, by go_num, HN.out, HKW.out.drewN _⟩
                  case measure => simp [intOf]; omega
              · obtain rfl : k = cuts.length := by omega
                have hrv := hid (HR.out.trans (Dom.err_ok (.inr (.inr ⟨rfl, rfl, ⟨hk1, by simp only; omega⟩, HA.out⟩))))
                go_wp2
                go_ret
                rw [hrv.out]
                exact ⟨rfl, KW.out.trans HKW.out (fun _ _ h => h)⟩
    · rw [Dom.err_bad (Dom.bad3 ⟨rfl, .inl h4⟩)]
      have d4 : (n != 0) = true := bne_iff_ne.2 h4
      clear h1 h2 h4
      go_enter Tryz.func125, Tryz.ntmps125
      go_wp2
      go_ret
      exact ⟨rfl, Keep.alloc (Keep.refl _ _) _⟩
  · rw [Dom.err_bad (Dom.bad4 ⟨h1, h2, h3⟩)]
    have d1 : (k == 1) = false := beq_eq_false_iff_ne.2 h1
    have d2 : (k == 2) = false := beq_eq_false_iff_ne.2 h2
    have d3 : (k == 3) = false := beq_eq_false_iff_ne.2 h3
    clear h1 h2 h3
    go_enter Tryz.func125, Tryz.ntmps125
    go_wp2
    go_ret
    exact ⟨rfl, Keep.alloc (Keep.refl _ _) _⟩

set_option maxHeartbeats 400000 in
theorem rvalues_bad (d : Dom) (h : ¬ d.ok) (hrd : Rd w 1 (.slice a d.cuts.length c) d.cuts.length (u64s d.cuts)) (hm : d.cuts.length ≤ 1000000) (hn : ∀ y ∈ d.cuts, 0 ≤ y) :
    Calls Tryz.prog 74 #[dv d a c] w fun e w' => e = .returned (.tuple #[.int .i64 0, .int .i64 2]) ∧ Keep Nil w w' := by
  have HD := hid hrd
  have HO := hid h
  have HN := hid hn
  clear hrd h hn
  go_enter Tryz.func74, Tryz.ntmps74
  unfold dv
  go_wp2_with fail
  refine (drcheck_any d (rd_keep HD.out (Keep.alloc (Keep.refl Nil _) _) (fun _ _ h => h)) hm HN.out).mono ?_
  rw [Dom.err_bad HO.out]
  rintro e w1 ⟨rfl, hk⟩
  have HK := hid hk
  clear hk
  go_wp2
  go_ret2
  exact ⟨rfl, ((Keep.refl Nil w).alloc _).trans HK.out (fun _ _ h => h)⟩

set_option maxHeartbeats 400000 in
theorem rvalues_ok (d : Dom) (h : d.ok) (hrd : Rd w 1 (.slice a d.cuts.length c) d.cuts.length (u64s d.cuts)) (hm : d.cuts.length ≤ 1000000) (hn : ∀ y ∈ d.cuts, 0 ≤ y) :
    Calls Tryz.prog 74 #[dv d a c] w fun e w' => e = .returned (.tuple #[.int .i64 d.cnt, .int .i64 0]) ∧ Keep Nil w w' := by
  have HD := hid hrd
  have HO := hid h
  have HN := hid hn
  clear hrd hn
  go_enter Tryz.func74, Tryz.ntmps74
  unfold dv
  go_wp2_with fail
  refine (drcheck_any d (rd_keep HD.out (Keep.alloc (Keep.refl Nil _) _) (fun _ _ h => h)) hm HN.out).mono ?_
  rw [Dom.err_ok HO.out]
  rintro e w1 ⟨rfl, hk⟩
  obtain ⟨c0, c1, c2⟩ := box3 hk
  have HK := hid (((Keep.refl Nil w).alloc _).trans hk (fun _ _ h => h))
  clear hk
  rcases h with ⟨h1, h2, h3⟩ | ⟨h1, ⟨n0, n1⟩, h3⟩ | ⟨h1, h2, h3, h4⟩
  · rw [h1] at c0
    have hv := hid (show ((d.cnt : Nat) : Int) = 1 by simp [Dom.cnt, h1])
    clear h1 h2 h3
    go_wp2
    go_ret2
    exact ⟨ret_num2 hv.out.symm, HK.out⟩
  · rw [h1] at c0
    have hv := hid (show ((d.cnt : Nat) : Int) = d.n by simp [Dom.cnt, h1]; omega)
    clear h1 h3
    go_wp2
    go_ret2
    exact ⟨ret_num2 hv.out.symm, HK.out⟩
  · rw [h1] at c0
    have hv := hid (show ((d.cnt : Nat) : Int) = (d.cuts.length : Int) + 1 by simp [Dom.cnt, h1])
    clear h1 h2 h3 h4
    go_wp2
    go_ret2
    exact ⟨ret_num2 hv.out.symm, HK.out⟩

theorem or_pow {s v : Nat} (hs : s < 18446744073709551616) (hv : v < 64) : Go.bits .or .u64 (s : Int) ((2 ^ v : Nat) : Int) = ((s ||| 2 ^ v : Nat) : Int) := bits_or_u64 hs (pow_lt64 hv)

end
end Go.Proofs.YtjghenomeindcaaGreat
