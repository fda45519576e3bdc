/- FullLater: the walk. -/
import Derived.Test.YtckopbjejjeknaaFullHolds
import Derived.Test.YtckopbjejjeknaaIndex
namespace Go.Lf
def t5 (j b sb : Nat) : PT := if j = 0 then z0 else if j < 6 then ⟨some (b, ⟨j, 0, 0⟩), false, 0, 0, 1, some (sb, [0, 0, 0, 0, 0, 0]), none⟩ else ⟨none, false, 0, 0, 1, some (sb, [0, 0, 0, 0, 0, 0]), none⟩
theorem t5_mid {j b sb : Nat} (h0 : j ≠ 0) (h1 : j < 6) : t5 j b sb = ⟨some (b, ⟨j, 0, 0⟩), false, 0, 0, 1, some (sb, [0, 0, 0, 0, 0, 0]), none⟩ := by unfold t5; rw [if_neg h0, if_pos h1]
theorem t5_end (b sb : Nat) : t5 6 b sb = ⟨none, false, 0, 0, 1, some (sb, [0, 0, 0, 0, 0, 0]), none⟩ := rfl
theorem t5_step {j b sb : Nat} (h0 : j ≠ 0) (h1 : j < 6) : t5 (j + 1) b sb = { t5 j b sb with wt := if 2 ≤ ((⟨j, 0, 0⟩ : WS).step 6 0).st then none else some (b, (⟨j, 0, 0⟩ : WS).step 6 0) } := by
  have : j = 1 ∨ j = 2 ∨ j = 3 ∨ j = 4 ∨ j = 5 := by omega
  rcases this with rfl | rfl | rfl | rfl | rfl <;> rfl
end Go.Lf
namespace Go.Proofs.Ytckopbjejjeknaa
open Go.RowKit Go.Lf
section
variable {w wr : World} {rb g nb bb mb : Nat} {F : Nat → Prop} {nums : List Int} {th : List PT} {log : List Acc}
theorem later_first (h : RunAt w wr rb g nb bb mb F [0, 0, 0, 0, 0, 0] noBeg [z0, z0, z0, z0, z0, z0] log) (hlog : log.length < 1000) :
    Calls Try.prog 37 #[.pointer (some ⟨rb, 0, none⟩), .int .i64 5, .int .u8 2, .int .i64 0, .int .u64 1] wr fun e w' => e = .returned (.bool true) ∧ ∃ b sb, RunTo w rb g nb bb mb [0, 0, 0, 0, 0, 0] noBeg [z0, z0, z0, z0, z0, t5 1 b sb] (log.length + 1) w' :=
  act_begin h 5 z0 rfl rfl rfl rfl 2 0 1 (by decide) (by decide) (by decide) 0 rfl (by decide) (by omega)
theorem later_next {j b sb : Nat} (h : RunAt w wr rb g nb bb mb F nums noBeg th log) (hlog : log.length < 1000) (h0 : j ≠ 0) (h6 : j < 6) (hx : th[5]? = some (t5 j b sb)) (hy : nums[j]? = some 0) :
    Calls Try.prog 37 #[.pointer (some ⟨rb, 0, none⟩), .int .i64 5, .int .u8 2, .int .i64 0, .int .u64 1] wr fun e w' => e = .returned (.bool true) ∧ RunTo w rb g nb bb mb nums noBeg (th.set 5 (t5 (j + 1) b sb)) (log.length + 1) w' := by
  have e0 := t5_mid (b := b) (sb := sb) h0 h6
  refine act_wait h 5 (t5 j b sb) b ⟨j, 0, 0⟩ hx (by rw [e0]) (by rw [e0]) 2 0 1 ((rwait_ok h 5 (t5 j b sb) b ⟨j, 0, 0⟩ hx (by rw [e0]) (by simp) h6 0 hy (by decide) sb [0, 0, 0, 0, 0, 0] (by rw [e0]) (by omega) (fun _ i z m _ h2 => ?_)).mono ?_)
  · rintro ⟨h3, -, -⟩
    have : i < 6 := by simpa using lt_of_at h2
    have : i = 0 ∨ i = 1 ∨ i = 2 ∨ i = 3 ∨ i = 4 ∨ i = 5 := by omega
    rcases this with rfl | rfl | rfl | rfl | rfl | rfl <;> (simp at h2; omega)
  · rintro e w' ⟨rfl, hr⟩
    rw [← t5_step h0 h6] at hr
    exact ⟨rfl, hr⟩
/-- The thread that waits has made j steps. -/
def LP (w : World) (rb g nb bb mb n j : Nat) (wr : World) : Prop := ∃ nums th b sb, (∀ p, n ≤ p → p < 6 → nums[p]? = some 0) ∧ th[5]? = some (t5 j b sb) ∧ RunTo w rb g nb bb mb nums noBeg th (50 + j) wr
end

set_option maxRecDepth 100000 in
set_option maxHeartbeats 16000000 in
theorem later_ok (w : World) (c n : Nat) (sl st : Int) (b0 : 0 ≤ sl) (b1 : 0 ≤ st) (hc : sl % 5 = c) (hn : st % 6 = (n : Int) - 1) (n0 : 1 ≤ n) (n6 : n ≤ 6) (c5 : c < 5) :
    Calls Try.prog 9 #[.int .u8 sl, .int .u8 st] w fun e w' => e = .returned (.bool true) ∧ Keep Nil w w' := by
  have HB := hid (begin_any w (Keep.refl _ _) 1)
  have hnn : (1 : Int) + ((n : Int) - 1) = n := by omega
  go_enter Try.func9, Try.ntmps9
  go_wp2_with fail
  refine HB.out.mono ?_
  rintro e w1 ⟨rb, g, nb, bb, mb, F, rfl, hr⟩
  have R1 := hid (show RunAt w w1 rb g nb bb mb F [0, 0, 0, 0, 0, 0] noBeg [z0, z0, z0, z0, z0, z0] [] from hr)
  clear hr HB
  go_wp2
  (try rw [hnn])
  clear hnn hn hc
  go_loopw [8] (fun i wr => ∃ j : Nat, j ≤ n ∧ i = .int .i64 j ∧ Hid (∃ b sb, RunTo w rb g nb bb mb [0, 0, 0, 0, 0, 0] noBeg [z0, z0, z0, z0, z0, t5 j b sb] j wr)) (fun i _ => 10 - (intOf i).toNat)
  case atStart => exact ⟨0, by omega, rfl, hid ⟨0, 0, F, [], R1.out, Nat.le_refl _⟩⟩
  case round =>
    obtain ⟨j, hj, rfl, HR⟩ := hrel
    clear R1
    by_cases hlt : j < n
    · have hca : Calls Try.prog 37 #[.pointer (some ⟨rb, 0, none⟩), .int .i64 5, .int .u8 2, .int .i64 0, .int .u64 1] wr fun e w' => e = .returned (.bool true) ∧ ∃ b sb, RunTo w rb g nb bb mb [0, 0, 0, 0, 0, 0] noBeg [z0, z0, z0, z0, z0, t5 (j + 1) b sb] (j + 1) w' := by
        obtain ⟨b, sb, F2, log2, h2, l2⟩ := HR.out
        by_cases hj0 : j = 0
        · subst hj0
          refine (later_first h2 (by omega)).mono ?_
          rintro e w' ⟨h4, b, sb, h5⟩
          exact ⟨h4, b, sb, h5.more (by omega)⟩
        · have : j = 1 ∨ j = 2 ∨ j = 3 ∨ j = 4 ∨ j = 5 := by omega
          refine (later_next h2 (by omega) hj0 (by omega) rfl (by rcases this with rfl | rfl | rfl | rfl | rfl <;> rfl)).mono ?_
          rintro e w' ⟨h4, h5⟩
          exact ⟨h4, b, sb, h5.more (by omega)⟩
      have HC := hid hca
      clear hca HR
      go_wp2_with fail
      refine HC.out.mono ?_
      rintro e w3 ⟨rfl, hq⟩
      have HQ := hid hq
      clear hq HC
      go_wp2
      go_roundw
      case rel => exact ⟨j + 1, by omega, by go_num, HQ⟩
      case measure => first | (simp [intOf]; done) | (simp [intOf]; omega)
    · obtain rfl : j = n := by omega
      obtain ⟨b, sb, F2, log2, h2, l2⟩ := HR.out
      have R2 := hid h2
      have cw := (h2.cells (t := 5) rfl).2.1
      clear h2 HR hlt
      by_cases hcn : c < j
      · have d1 : decide ((c : Int) < (j : Int)) = true := decide_eq_true (by omega)
        have d1' : decide (c < j) = true := decide_eq_true (by omega)
        by_cases hj6 : j < 6
        · have c38 : wr.cell? ⟨rb, 38, none⟩ = some (.pointer (some ⟨b, 0, none⟩)) := by
            rw [t5_mid (by omega) hj6] at cw; exact cw
          have hz : [z0, z0, z0, z0, z0, t5 j b sb][c]? = some z0 := by
            have : c = 0 ∨ c = 1 ∨ c = 2 ∨ c = 3 ∨ c = 4 := by omega
            rcases this with rfl | rfl | rfl | rfl | rfl <;> rfl
          have hz2 : ([0, 0, 0, 0, 0, 0] : List Int)[c]? = some 0 := by
            have : c = 0 ∨ c = 1 ∨ c = 2 ∨ c = 3 ∨ c = 4 := by omega
            rcases this with rfl | rfl | rfl | rfl | rfl <;> rfl
          have HE := hid (act_enter R2.out c z0 hz rfl rfl rfl 0 0 1 (by decide) (by decide) (by decide) (by decide) 0 hz2 (by decide) (by decide) (by decide) (by rw [noBeg, List.getElem?_replicate, if_pos (by omega)]) (by omega) (by decide) (by decide))
          have HZ := hid hz
          have HCN := hid hcn
          clear cw hz hz2 hcn
          go_wp2_with fail
          refine HE.out.mono ?_
          rintro e w3 ⟨rfl, F3, log3, h3, l3⟩
          have ci : w3.cell? ⟨rb, 2 + c * 7 + 2, none⟩ = some (.bool true) := (h3.cells (t := c) (set_self HZ.out _)).2.2.1
          have HP := hid (show LP w rb g nb bb mb j j w3 from ⟨_, _, b, sb, fun p h1 h2 => by
            have : p = 0 ∨ p = 1 ∨ p = 2 ∨ p = 3 ∨ p = 4 ∨ p = 5 := by omega
            rw [List.getElem?_set, if_neg (by have := HCN.out; omega)]
            rcases this with rfl | rfl | rfl | rfl | rfl | rfl <;> rfl, by rw [List.getElem?_set, if_neg (by omega)]; rfl, F3, log3, h3, by omega⟩)
          clear h3 HE c38 R2 HZ
          go_wp2
          go_loopw [9] (fun i wr => ∃ q : Nat, j ≤ q ∧ q ≤ 6 ∧ i = .int .i64 q ∧ Hid (LP w rb g nb bb mb j q wr)) (fun i _ => 10 - (intOf i).toNat)
          case atStart => exact ⟨j, by omega, by omega, rfl, HP⟩
          case round =>
            obtain ⟨q, hq1, hq2, rfl, HR⟩ := hrel
            clear HP
            obtain ⟨nums, th, b', sb', hnu, hth, F5, log5, h5, l5⟩ := HR.out
            have cw := (h5.cells (t := 5) hth).2.1
            by_cases hlt : q < 6
            · have c38 : wr.cell? ⟨rb, 38, none⟩ = some (.pointer (some ⟨b', 0, none⟩)) := by
                rw [t5_mid (by omega) hlt] at cw; exact cw
              have HC := hid (later_next h5 (by omega) (by omega) hlt hth (hnu q (by omega) hlt))
              have HT := hid hth
              have HNU := hid hnu
              clear h5 cw hth hnu
              go_wp2_with fail
              refine HC.out.mono ?_
              rintro e w6 ⟨rfl, hr6⟩
              have HQ := hid (show LP w rb g nb bb mb j (q + 1) w6 from ⟨nums, _, b', sb', HNU.out, set_self HT.out _, hr6.more (by omega)⟩)
              clear hr6 HC c38
              go_wp2
              go_roundw
              case rel => exact ⟨q + 1, by omega, by omega, by go_num, HQ⟩
              case measure => first | (simp [intOf]; done) | (simp [intOf]; omega)
            · obtain rfl : q = 6 := by omega
              have c38 : wr.cell? ⟨rb, 38, none⟩ = some (.pointer none) := cw
              have HH := hid (holds_ok w (w := wr) h5.own.1)
              clear h5 cw hnu hth
              go_wp2_with fail
              refine HH.out.mono ?_
              rintro e w6 ⟨rfl, hk6⟩
              have HK := hid hk6
              clear hk6
              go_wp2
              go_ret
              exact ⟨rfl, HK.out⟩
        · have c38 : wr.cell? ⟨rb, 38, none⟩ = some (.pointer none) := by
            obtain rfl : j = 6 := by omega
            exact cw
          have HP := hid (show LP w rb g nb bb mb j j wr from ⟨_, _, b, sb, fun p h1 h2 => by omega, rfl, F2, log2, R2.out, by omega⟩)
          clear cw R2
          go_wp2
          go_loopw [9] (fun i wr => ∃ q : Nat, j ≤ q ∧ q ≤ 6 ∧ i = .int .i64 q ∧ Hid (LP w rb g nb bb mb j q wr)) (fun i _ => 10 - (intOf i).toNat)
          case atStart => exact ⟨j, by omega, by omega, rfl, HP⟩
          case round =>
            obtain ⟨q, hq1, hq2, rfl, HR⟩ := hrel
            clear HP
            obtain ⟨nums, th, b', sb', hnu, hth, F5, log5, h5, l5⟩ := HR.out
            have cw := (h5.cells (t := 5) hth).2.1
            by_cases hlt : q < 6
            · exact absurd hlt (by omega)
            · obtain rfl : q = 6 := by omega
              have c38 : wr.cell? ⟨rb, 38, none⟩ = some (.pointer none) := cw
              have HH := hid (holds_ok w (w := wr) h5.own.1)
              clear h5 cw hnu hth
              go_wp2_with fail
              refine HH.out.mono ?_
              rintro e w6 ⟨rfl, hk6⟩
              have HK := hid hk6
              clear hk6
              go_wp2
              go_ret
              exact ⟨rfl, HK.out⟩
      · have d1 : decide ((c : Int) < (j : Int)) = false := decide_eq_false (by omega)
        have d1' : decide (c < j) = false := decide_eq_false (by omega)
        have HP := hid (show LP w rb g nb bb mb j j wr from ⟨_, _, b, sb, fun p h1 h2 => by
            have : p = 0 ∨ p = 1 ∨ p = 2 ∨ p = 3 ∨ p = 4 ∨ p = 5 := by omega
            rcases this with rfl | rfl | rfl | rfl | rfl | rfl <;> rfl, rfl, F2, log2, R2.out, by omega⟩)
        clear cw R2
        go_wp2
        go_loopw [9] (fun i wr => ∃ q : Nat, j ≤ q ∧ q ≤ 6 ∧ i = .int .i64 q ∧ Hid (LP w rb g nb bb mb j q wr)) (fun i _ => 10 - (intOf i).toNat)
        case atStart => exact ⟨j, by omega, by omega, rfl, HP⟩
        case round =>
          obtain ⟨q, hq1, hq2, rfl, HR⟩ := hrel
          clear HP
          obtain ⟨nums, th, b', sb', hnu, hth, F5, log5, h5, l5⟩ := HR.out
          have cw := (h5.cells (t := 5) hth).2.1
          by_cases hlt : q < 6
          · have c38 : wr.cell? ⟨rb, 38, none⟩ = some (.pointer (some ⟨b', 0, none⟩)) := by
              rw [t5_mid (by omega) hlt] at cw; exact cw
            have HC := hid (later_next h5 (by omega) (by omega) hlt hth (hnu q (by omega) hlt))
            have HT := hid hth
            have HNU := hid hnu
            clear h5 cw hth hnu
            go_wp2_with fail
            refine HC.out.mono ?_
            rintro e w6 ⟨rfl, hr6⟩
            have HQ := hid (show LP w rb g nb bb mb j (q + 1) w6 from ⟨nums, _, b', sb', HNU.out, set_self HT.out _, hr6.more (by omega)⟩)
            clear hr6 HC c38
            go_wp2
            go_roundw
            case rel => exact ⟨q + 1, by omega, by omega, by go_num, HQ⟩
            case measure => first | (simp [intOf]; done) | (simp [intOf]; omega)
          · obtain rfl : q = 6 := by omega
            have c38 : wr.cell? ⟨rb, 38, none⟩ = some (.pointer none) := cw
            have HH := hid (holds_ok w (w := wr) h5.own.1)
            clear h5 cw hnu hth
            go_wp2_with fail
            refine HH.out.mono ?_
            rintro e w6 ⟨rfl, hk6⟩
            have HK := hid hk6
            clear hk6
            go_wp2
            go_ret
            exact ⟨rfl, HK.out⟩
theorem walk_later (w : World) (sl : Int) (b0 : (Lit.int .u8 sl).wf = true) (st : Int) (b1 : (Lit.int .u8 st).wf = true) :
    Calls Try.prog 9 #[.int .u8 sl, .int .u8 st] w fun e w' => e = .returned (.bool true) ∧ Keep Nil w w' := by
  have h0 := u8_wf b0
  have h1 := u8_wf b1
  exact later_ok w (sl % 5).toNat (1 + st % 6).toNat sl st h0.1 h1.1 (by omega) (by omega) (by omega) (by omega) (by omega)
end Go.Proofs.Ytckopbjejjeknaa
