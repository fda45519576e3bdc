/- DomainOf: the walk. -/
import Derived.Test.YtfpobagkananeaaDomLaws
import Derived.Deep.RegionHeld3
namespace Go.Proofs.Ytfpobagkananeaa
open Go.RowKit Go.Lf

theorem empty_row' (w : World) (e : TypeId) (size : Nat) : (w.alloc (.cells #[] e)).ownsRow 0 e size (.slice (some ⟨w.heap.size, 0, none⟩) 0 0) 0 [] :=
  ⟨by simp, .inr ⟨_, 0, #[], rfl, Nat.zero_le _, heap_alloc_new w _, Nat.le_refl _, Nat.zero_le _, by simp, by simp⟩⟩
theorem infoU64' : (Try.prog.info? 22).map (fun i => (i.zero, i.size, i.bytes)) = some (some (.int .u64 0), 1, 8) := by kernel_rfl

set_option maxRecDepth 100000 in
set_option maxHeartbeats 4000000 in
theorem walk_of (w : World) (d : Dom) (a : Option Addr) (c : Nat) (hd : DomIn w d a c) (hm : d.cuts.length ≤ maxLen) (x : Int) (hx0 : 0 ≤ x) (hx1 : x ≤ topU) :
    Calls Try.prog 4 #[dv d a c, .int .u64 x] w fun e w' => e = .returned (.bool true) ∧ Keep Nil w w' := by
  unfold maxLen at hm
  have HD := hid hd
  have hb := DBox.new w d a c
  have HK := hid (Keep.alloc (Keep.refl Nil w) (.cells #[.int .u8 d.k, .int .i64 d.n, .slice a d.cuts.length c] 32 (0, 0)))
  have HB := hid hb
  have HX1 := hid hx1
  clear hd hb hx1
  go_enter Try.func4, Try.ntmps4
  unfold dv
  go_wp2_with fail
  by_cases hl : d.cuts.length ≤ 200
  · refine (long_any d false (decide_eq_false (by omega))).mono ?_
    rintro e w1 ⟨rfl, hk⟩
    obtain ⟨c0, c1, c2⟩ := (HB.out.keep hk).cells
    have HB1 := hid (HB.out.keep hk)
    have HK1 := hid (HK.out.trans hk (fun _ _ h => h))
    clear hk
    have c2a : (w1.alloc (.cells #[] 22)).cell? ⟨w.heap.size, 2, none⟩ = some (.slice a d.cuts.length c) := ((Keep.refl Nil w1).alloc _).cell c2 (fun h => h)
    go_wp2_with (at_builtin; refine wpList_app _ rfl (.tmp 22) (.tmp 24) 30 rfl 22 _ 1 8 Try.underlying30 infoU64' rfl (by decide) (.slice (some ⟨w1.heap.size, 0, none⟩) 0 0) 0 [] rfl ?own (.slice a d.cuts.length c) d.cuts.length (u64s d.cuts) rfl ?rd ?one ?byt ?len ?_)
    case own => exact empty_row' w1 _ _
    case rd => exact rd_keep HD.out.rd (HK1.out.alloc _) (fun _ _ h => h)
    case one => exact u64s_one _
    case byt => omega
    case len => unfold maxLen; omega
    intro oa oc w2 ho hg hs
    have k2 : Keep Nil w1 w2 := Keep.grown (Keep.alloc (Keep.refl _ _) _) hg (fun j hj => .inr (by simp [Value.ownBlock] at hj; omega))
    have R2 := hid (row_rd ho)
    obtain ⟨c0', c1', c2'⟩ := (HB1.out.keep k2).cells
    have HB2 := hid (HB1.out.keep k2)
    have HK2 := hid (HK1.out.trans k2 (fun _ _ h => h))
    clear ho hg hs k2 c0 c1 c2 c2a
    go_wp2_with fail
    refine (values_any d (HD.out.keep HK2.out).rd (by omega) HD.out.lo HD.out.hi).mono ?_
    rintro e w3 ⟨rfl, hk⟩
    obtain ⟨c0, c1, c2⟩ := (HB2.out.keep hk).cells
    have R3 := hid (rd_keep R2.out hk (fun _ _ h => h))
    have HB3 := hid (HB2.out.keep hk)
    have HK3 := hid (HK2.out.trans hk (fun _ _ h => h))
    clear hk c0' c1' c2'
    go_wp2_with fail
    refine (rvalues_any d (HD.out.keep HK3.out).rd (by omega) HD.out.lo HD.out.hi).mono ?_
    rintro e w4 ⟨rfl, hk⟩
    obtain ⟨c0', c1', c2'⟩ := (HB3.out.keep hk).cells
    have R4 := hid (rd_keep R3.out hk (fun _ _ h => h))
    have HB4 := hid (HB3.out.keep hk)
    have HK4 := hid (HK3.out.trans hk (fun _ _ h => h))
    clear hk c0 c1 c2
    go_wp2_with fail
    refine (of_any d (HD.out.keep HK4.out).rd (by omega) HD.out.lo HD.out.hi x hx0 HX1.out).mono ?_
    rintro e w5 ⟨rfl, hk⟩
    obtain ⟨c0, c1, c2⟩ := (HB4.out.keep hk).cells
    have R5 := hid (rd_keep R4.out hk (fun _ _ h => h))
    have HB5 := hid (HB4.out.keep hk)
    have HK5 := hid (HK4.out.trans hk (fun _ _ h => h))
    clear hk c0' c1' c2'
    go_wp2_with fail
    refine (rof_any d (HD.out.keep HK5.out).rd (by omega) HD.out.lo HD.out.hi x hx0 HX1.out).mono ?_
    rintro e w6 ⟨rfl, hk⟩
    obtain ⟨c0', c1', c2'⟩ := (HB5.out.keep hk).cells
    have R6 := hid (rd_keep R5.out hk (fun _ _ h => h))
    have HB6 := hid (HB5.out.keep hk)
    have HK6 := hid (HK5.out.trans hk (fun _ _ h => h))
    clear hk c0 c1 c2
    go_wp2_with fail
    refine (all_any d (HD.out.keep HK6.out).rd (by omega) HD.out.lo HD.out.hi).mono ?_
    rintro e w7 ⟨rfl, hk⟩
    obtain ⟨c0, c1, c2⟩ := (HB6.out.keep hk).cells
    have R7 := hid (rd_keep R6.out hk (fun _ _ h => h))
    have HB7 := hid (HB6.out.keep hk)
    have HK7 := hid (HK6.out.trans hk (fun _ _ h => h))
    clear hk c0' c1' c2'
    go_wp2_with fail
    refine (rall_any d (HD.out.keep HK7.out).rd (by omega) HD.out.lo HD.out.hi).mono ?_
    rintro e w8 ⟨rfl, hk⟩
    obtain ⟨c0', c1', c2'⟩ := (HB7.out.keep hk).cells
    have R8 := hid (rd_keep R7.out hk (fun _ _ h => h))
    have HB8 := hid (HB7.out.keep hk)
    have HK8 := hid (HK7.out.trans hk (fun _ _ h => h))
    clear hk c0 c1 c2 R2 R3 R4 R5 R6 R7 HB HB1 HB2 HB3 HB4 HB5 HB6 HB7 HK HK1 HK2 HK3 HK4 HK5 HK6 HK7
    have e1 : (d.cntE != d.cntE) = false := by simp
    have e2 : (d.err != d.err) = false := by simp
    have e3 : (d.ofE x != d.ofE x) = false := by simp
    have e4 : (d.allE != d.allE) = false := by simp
    have hm' : d.cuts.length ≤ 1000000 := by omega
    go_wp2
    go_region_held3 (fun w' => w'.cell? ⟨w.heap.size, 0, none⟩ = some (.int .u8 d.k) ∧ w'.cell? ⟨w.heap.size, 1, none⟩ = some (.int .i64 d.n) ∧ w'.cell? ⟨w.heap.size, 2, none⟩ = some (.slice a d.cuts.length c)) (go_keep)
      (first
        | (go_at_call 22; refine (check_any d (HD.out.keep (HK8.out.trans (Keep.refl Nil w8).drew (fun _ _ h => h))).rd hm').mono ?_; rintro e w9 ⟨rfl, hk⟩; have k9 : Keep Nil w8 w9 := (Keep.refl Nil w8).drew.trans hk (fun _ _ h => h); obtain ⟨g0, g1, g2⟩ := (HB8.out.keep k9).cells; have K9 := hid k9; clear hk k9)
        | (go_at_call 23; refine (rcheck_any d (HD.out.keep (HK8.out.trans K9.out (fun _ _ h => h))).rd hm' HD.out.lo).mono ?_; rintro e w10 ⟨rfl, hk⟩; have k10 : Keep Nil w8 w10 := K9.out.trans hk (fun _ _ h => h); obtain ⟨h0, h1, h2⟩ := (HB8.out.keep k10).cells; have K10 := hid k10; clear hk k10))
    have R10 := hid (rd_keep R8.out K10.out (fun _ _ h => h))
    have HB10 := hid (HB8.out.keep K10.out)
    have HK10 := hid (HK8.out.trans K10.out (fun _ _ h => h))
    clear R8 HB8 HK8 K9 K10 c0' c1' c2' e1 e2 e3 e4
    clear g0 g1 g2
    go_wp2
    go_loopw [18] (fun i wr => ∃ k : Nat, k ≤ d.cuts.length ∧ i = .int .i64 k ∧ Keep Nil w10 wr) (fun i _ => d.cuts.length - (intOf i).toNat)
    case atStart => exact ⟨0, Nat.zero_le _, rfl, Keep.refl _ _⟩
    case round =>
      obtain ⟨k, hk, rfl, hkw⟩ := hrel
      obtain ⟨c0, c1, c2⟩ := (HB10.out.keep hkw).cells
      have KW := hid hkw
      clear hkw h0 h1 h2
      by_cases hlt : k < d.cuts.length
      · obtain ⟨b1, o1, ha, hc1⟩ := rd_cut (HD.out.keep (HK10.out.trans KW.out (fun _ _ h => h))).rd hlt
        obtain ⟨b2, o2, cc, hv, hc2⟩ := Rd.cell (rd_keep R10.out KW.out (fun _ _ h => h)) (by simpa using (show 0 < d.cuts.length by omega))
        simp only [Value.slice.injEq] at hv
        obtain ⟨hv1, -, -⟩ := hv
        have q1 : wr.cell? ⟨b1, o1 + k, none⟩ = some (.int .u64 (gcut d.cuts k)) := hc1 k hlt
        have q2 : wr.cell? ⟨b2, o2 + k, none⟩ = some (.int .u64 (gcut d.cuts k)) := hc2 k _ (u64s_at (gcut_at hlt))
        have i0 : (0 : Int) ≤ (k : Int) := by omega
        have i1 : (k : Int) < (d.cuts.length : Int) := by omega
        clear hc1 hc2
        subst hv1 ha
        go_wp2
        go_quiet (fail)
        go_wp2
        go_roundw
        case rel => exact ⟨k + 1, by omega, by go_num, KW.out.drewN _⟩
        case measure => simp [intOf]; omega
      · obtain rfl : k = d.cuts.length := by omega
        go_wp2
        go_ret
        exact ⟨rfl, HK10.out.trans KW.out (fun _ _ h => h)⟩
  · refine (long_any d true (decide_eq_true (by omega))).mono ?_
    rintro e w1 ⟨rfl, hk⟩
    have HK1 := hid (HK.out.trans hk (fun _ _ h => h))
    clear hk
    go_wp2_with fail
    refine (known_any _).mono ?_
    rintro e w2 ⟨rfl, hk⟩
    have HK2 := hid (HK1.out.trans hk (fun _ _ h => h))
    clear hk
    go_wp2
    go_ret
    exact ⟨rfl, HK2.out⟩
end Go.Proofs.Ytfpobagkananeaa
