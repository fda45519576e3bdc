/- ReadNames: the walk. -/
import Derived.Test.YtmafdjhjmnghcaaGreatReadNm1
import Derived.Test.YtmafdjhjmnghcaaGreatReadNm5
set_option linter.unusedVariables false
set_option linter.unusedSimpArgs false
namespace Go.Proofs.YtmafdjhjmnghcaaGreat
open Go.RowKit Go.Lf
section
theorem sw_rarg {wr : World} (b : Nat) (t tw tr : Int) (h : t < 0 ∨ 64 ≤ t ∨ tr < 0 ∨ 255 < tr) : Calls Tryz.prog 33 #[.pointer (some ⟨b, 0, none⟩), .int .i64 t, .int .i64 tw, .int .i64 tr] wr fun e w' => e = .returned (.tuple #[.pointer none, .int .i64 2]) ∧ wr = w' := rdnew_arg t tw tr h
theorem sw_rrange {w wr : World} {c : Cfg} {b mb : Nat} {ws : List Int} {log : List Acc} (h : SW w wr c b mb ws log) (hok : c.ok) (t tw tr : Int) (t0 : 0 ≤ t) (t1 : t < 64) (r0 : 0 ≤ tr) (r1 : tr ≤ 255) (hw : tw < 1 ∨ (c.nT : Int) < tw) : Calls Tryz.prog 33 #[.pointer (some ⟨b, 0, none⟩), .int .i64 t, .int .i64 tw, .int .i64 tr] wr fun e w' => e = .returned (.tuple #[.pointer none, .int .i64 3]) ∧ wr = w' := by
  obtain ⟨A, ⟨L, F, G, hsp⟩, hA⟩ := h.ex
  exact rdnew_range hsp hok t tw tr t0 t1 r0 r1 hw
theorem rstep_nil {w : World} : Calls Tryz.prog 34 #[.pointer none] w fun e w' => e = .returned (.tuple #[.int .u8 0, .bool false]) ∧ w = w' := by
  go_enter Tryz.func34, Tryz.ntmps34
  go_wp2
  go_ret2
  exact ⟨rfl, rfl⟩
set_option maxRecDepth 100000 in
set_option maxHeartbeats 4000000 in
theorem walk_rnames (w : World) : Calls Tryz.prog 6 #[] w fun e w' => e = .returned (.bool true) ∧ Keep Nil w w' := by
  go_enter Tryz.func6, Tryz.ntmps6
  go_wp2_with fail
  refine (rdnew_nil 0 1 1).mono ?_
  rintro e w' ⟨rfl, rfl⟩
  go_wp2_with fail
  refine (rstep_nil).mono ?_
  rintro e w' ⟨rfl, rfl⟩
  go_wp2_with fail
  refine (rres_nil).mono ?_
  rintro e w' ⟨rfl, rfl⟩
  go_wp2_with fail
  refine (rnext_nil).mono ?_
  rintro e w' ⟨rfl, rfl⟩
  go_wp2_with fail
  refine (lstate_ok 0 0 0 (by decide) (by decide) (by decide) (by decide) (by decide) (by decide) (by decide) 0 (by decide)).mono ?_
  rintro e w' ⟨rfl, rfl⟩
  go_wp2_with fail
  refine (says_ok 0 0 (by decide) (by decide) (by decide) (by decide) 1 0 1 rfl false (by decide +kernel)).mono ?_
  rintro e v1 ⟨rfl, hk⟩
  have HQ1 := hid ((Keep.refl Nil w).trans hk (fun _ _ h => h))
  clear hk
  go_wp2_with fail
  refine (lstate_ok 2 0 0 (by decide) (by decide) (by decide) (by decide) (by decide) (by decide) (by decide) 2 (by decide)).mono ?_
  rintro e w' ⟨rfl, rfl⟩
  go_wp2_with fail
  refine (says_ok 2 0 (by decide) (by decide) (by decide) (by decide) 1 0 1 rfl false (by decide +kernel)).mono ?_
  rintro e v2 ⟨rfl, hk⟩
  have HQ2 := hid (HQ1.out.trans hk (fun _ _ h => h))
  clear hk
  go_wp2_with fail
  refine (lstate_ok 4 0 3 (by decide) (by decide) (by decide) (by decide) (by decide) (by decide) (by decide) 196612 (by decide)).mono ?_
  rintro e w' ⟨rfl, rfl⟩
  go_wp2_with fail
  refine (ldesc_ok 3 false (by decide) (by decide) 6 (by decide)).mono ?_
  rintro e w' ⟨rfl, rfl⟩
  go_wp2_with fail
  refine (says_ok 196612 6 (by decide) (by decide) (by decide) (by decide) 3 50 3 rfl true (by decide +kernel)).mono ?_
  rintro e v3 ⟨rfl, hk⟩
  have HQ3 := hid (HQ2.out.trans hk (fun _ _ h => h))
  clear hk
  go_wp2_with fail
  refine (lstate_ok 4 0 3 (by decide) (by decide) (by decide) (by decide) (by decide) (by decide) (by decide) 196612 (by decide)).mono ?_
  rintro e w' ⟨rfl, rfl⟩
  go_wp2_with fail
  refine (ldesc_ok 4 false (by decide) (by decide) 8 (by decide)).mono ?_
  rintro e w' ⟨rfl, rfl⟩
  go_wp2_with fail
  refine (says_ok 196612 8 (by decide) (by decide) (by decide) (by decide) 2 0 2 rfl false (by decide +kernel)).mono ?_
  rintro e v4 ⟨rfl, hk⟩
  have HQ4 := hid (HQ3.out.trans hk (fun _ _ h => h))
  clear hk
  go_wp2_with fail
  refine (says_ok 7 0 (by decide) (by decide) (by decide) (by decide) 1 0 1 rfl false (by decide +kernel)).mono ?_
  rintro e v5 ⟨rfl, hk⟩
  have HQ5 := hid (HQ4.out.trans hk (fun _ _ h => h))
  clear hk
  go_wp2_with fail
  refine (lstate_ok 4 2 3 (by decide) (by decide) (by decide) (by decide) (by decide) (by decide) (by decide) 196628 (by decide)).mono ?_
  rintro e w' ⟨rfl, rfl⟩
  go_wp2_with fail
  refine (says_ok 196628 0 (by decide) (by decide) (by decide) (by decide) 1 0 1 rfl false (by decide +kernel)).mono ?_
  rintro e v6 ⟨rfl, hk⟩
  have HQ6 := hid (HQ5.out.trans hk (fun _ _ h => h))
  clear hk
  go_wp2_with fail
  refine (lstate_ok 5 0 3 (by decide) (by decide) (by decide) (by decide) (by decide) (by decide) (by decide) 196613 (by decide)).mono ?_
  rintro e w' ⟨rfl, rfl⟩
  go_wp2_with fail
  refine (says_ok 196613 9223372036854775808 (by decide) (by decide) (by decide) (by decide) 2 0 2 rfl false (by decide +kernel)).mono ?_
  rintro e v7 ⟨rfl, hk⟩
  have HQ7 := hid (HQ6.out.trans hk (fun _ _ h => h))
  clear hk
  go_wp2_with fail
  refine example_ok.mono ?_
  rintro e w1 ⟨rfl, hk1⟩
  have HK1 := hid (HQ7.out.trans hk1 (fun _ _ h => h))
  clear hk1
  go_wp2_with fail
  refine exnew_ok.mono ?_
  rintro e w2 hnew
  obtain ⟨b, mb, rfl, hs⟩ := SW.new HK1.out hnew
  have HS := hid hs
  clear hnew hs HK1
  go_wp2_with fail
  have HK := hid (Keep.refl Nil w2)
  have hl := heap_alloc_new w2 (.cells #[.int .i64 (-1), .int .i64 1, .int .i64 1, .int .i64 64, .int .i64 1, .int .i64 1, .int .i64 0, .int .i64 1, .int .i64 (-1), .int .i64 0, .int .i64 1, .int .i64 256, .int .i64 64, .int .i64 9, .int .i64 1] 78)
  have hk := HK.out.alloc (.cells #[.int .i64 (-1), .int .i64 1, .int .i64 1, .int .i64 64, .int .i64 1, .int .i64 1, .int .i64 0, .int .i64 1, .int .i64 (-1), .int .i64 0, .int .i64 1, .int .i64 256, .int .i64 64, .int .i64 9, .int .i64 1] 78)
  obtain ⟨X0, hX⟩ : ∃ X : World, X = (w2.alloc (.cells #[.int .i64 (-1), .int .i64 1, .int .i64 1, .int .i64 64, .int .i64 1, .int .i64 1, .int .i64 0, .int .i64 1, .int .i64 (-1), .int .i64 0, .int .i64 1, .int .i64 256, .int .i64 64, .int .i64 9, .int .i64 1] 78)) := ⟨_, rfl⟩
  rw [← hX] at hl hk ⊢
  clear hX HK
  have HL := hid hl
  have HK := hid hk
  clear hl hk
  have cl0 : X0.cell? ⟨w2.heap.size, 0, none⟩ = some (.int .i64 (-1)) := by rw [cell_of HL.out]; rfl
  have cl1 : X0.cell? ⟨w2.heap.size, 1, none⟩ = some (.int .i64 1) := by rw [cell_of HL.out]; rfl
  have cl2 : X0.cell? ⟨w2.heap.size, 2, none⟩ = some (.int .i64 1) := by rw [cell_of HL.out]; rfl
  have lz : w2.heap.size < X0.heap.size := lt_of_block HL.out
  refine wp_loop_rounds 6 ?_
  repeat any_goals (rw [rounds_succ]; go_wp2_with fail)
  clear cl0 cl1 cl2 lz
  have hl := alloc_old HL.out (.cells #[.int .i64 (-1), .int .i64 1, .int .i64 1] 78)
  have hk := HK.out.alloc (.cells #[.int .i64 (-1), .int .i64 1, .int .i64 1] 78)
  obtain ⟨X1, hX⟩ : ∃ X : World, X = (X0.alloc (.cells #[.int .i64 (-1), .int .i64 1, .int .i64 1] 78)) := ⟨_, rfl⟩
  rw [← hX] at hl hk ⊢
  clear hX HL HK
  have HL := hid hl
  have HK := hid hk
  clear hl hk
  refine (sw_rarg b (-1) (1) (1) (by decide)).mono ?_
  rintro e w' ⟨rfl, rfl⟩
  go_wp2_with fail
  rw [rounds_succ]
  have cl0 : X1.cell? ⟨w2.heap.size, 3, none⟩ = some (.int .i64 64) := by rw [cell_of HL.out]; rfl
  have cl1 : X1.cell? ⟨w2.heap.size, 4, none⟩ = some (.int .i64 1) := by rw [cell_of HL.out]; rfl
  have cl2 : X1.cell? ⟨w2.heap.size, 5, none⟩ = some (.int .i64 1) := by rw [cell_of HL.out]; rfl
  have lz : w2.heap.size < X1.heap.size := lt_of_block HL.out
  go_wp2_with fail
  clear cl0 cl1 cl2 lz
  have hl := alloc_old HL.out (.cells #[.int .i64 64, .int .i64 1, .int .i64 1] 78)
  have hk := HK.out.alloc (.cells #[.int .i64 64, .int .i64 1, .int .i64 1] 78)
  obtain ⟨X2, hX⟩ : ∃ X : World, X = (X1.alloc (.cells #[.int .i64 64, .int .i64 1, .int .i64 1] 78)) := ⟨_, rfl⟩
  rw [← hX] at hl hk ⊢
  clear hX HL HK
  have HL := hid hl
  have HK := hid hk
  clear hl hk
  refine (sw_rarg b (64) (1) (1) (by decide)).mono ?_
  rintro e w' ⟨rfl, rfl⟩
  go_wp2_with fail
  rw [rounds_succ]
  have cl0 : X2.cell? ⟨w2.heap.size, 6, none⟩ = some (.int .i64 0) := by rw [cell_of HL.out]; rfl
  have cl1 : X2.cell? ⟨w2.heap.size, 7, none⟩ = some (.int .i64 1) := by rw [cell_of HL.out]; rfl
  have cl2 : X2.cell? ⟨w2.heap.size, 8, none⟩ = some (.int .i64 (-1)) := by rw [cell_of HL.out]; rfl
  have lz : w2.heap.size < X2.heap.size := lt_of_block HL.out
  go_wp2_with fail
  clear cl0 cl1 cl2 lz
  have hl := alloc_old HL.out (.cells #[.int .i64 0, .int .i64 1, .int .i64 (-1)] 78)
  have hk := HK.out.alloc (.cells #[.int .i64 0, .int .i64 1, .int .i64 (-1)] 78)
  obtain ⟨X3, hX⟩ : ∃ X : World, X = (X2.alloc (.cells #[.int .i64 0, .int .i64 1, .int .i64 (-1)] 78)) := ⟨_, rfl⟩
  rw [← hX] at hl hk ⊢
  clear hX HL HK
  have HL := hid hl
  have HK := hid hk
  clear hl hk
  refine (sw_rarg b (0) (1) (-1) (by decide)).mono ?_
  rintro e w' ⟨rfl, rfl⟩
  go_wp2_with fail
  rw [rounds_succ]
  have cl0 : X3.cell? ⟨w2.heap.size, 9, none⟩ = some (.int .i64 0) := by rw [cell_of HL.out]; rfl
  have cl1 : X3.cell? ⟨w2.heap.size, 10, none⟩ = some (.int .i64 1) := by rw [cell_of HL.out]; rfl
  have cl2 : X3.cell? ⟨w2.heap.size, 11, none⟩ = some (.int .i64 256) := by rw [cell_of HL.out]; rfl
  have lz : w2.heap.size < X3.heap.size := lt_of_block HL.out
  go_wp2_with fail
  clear cl0 cl1 cl2 lz
  have hl := alloc_old HL.out (.cells #[.int .i64 0, .int .i64 1, .int .i64 256] 78)
  have hk := HK.out.alloc (.cells #[.int .i64 0, .int .i64 1, .int .i64 256] 78)
  obtain ⟨X4, hX⟩ : ∃ X : World, X = (X3.alloc (.cells #[.int .i64 0, .int .i64 1, .int .i64 256] 78)) := ⟨_, rfl⟩
  rw [← hX] at hl hk ⊢
  clear hX HL HK
  have HL := hid hl
  have HK := hid hk
  clear hl hk
  refine (sw_rarg b (0) (1) (256) (by decide)).mono ?_
  rintro e w' ⟨rfl, rfl⟩
  go_wp2_with fail
  rw [rounds_succ]
  have cl0 : X4.cell? ⟨w2.heap.size, 12, none⟩ = some (.int .i64 64) := by rw [cell_of HL.out]; rfl
  have cl1 : X4.cell? ⟨w2.heap.size, 13, none⟩ = some (.int .i64 9) := by rw [cell_of HL.out]; rfl
  have cl2 : X4.cell? ⟨w2.heap.size, 14, none⟩ = some (.int .i64 1) := by rw [cell_of HL.out]; rfl
  have lz : w2.heap.size < X4.heap.size := lt_of_block HL.out
  go_wp2_with fail
  clear cl0 cl1 cl2 lz
  have hl := alloc_old HL.out (.cells #[.int .i64 64, .int .i64 9, .int .i64 1] 78)
  have hk := HK.out.alloc (.cells #[.int .i64 64, .int .i64 9, .int .i64 1] 78)
  obtain ⟨X5, hX⟩ : ∃ X : World, X = (X4.alloc (.cells #[.int .i64 64, .int .i64 9, .int .i64 1] 78)) := ⟨_, rfl⟩
  rw [← hX] at hl hk ⊢
  clear hX HL HK
  have HL := hid hl
  have HK := hid hk
  clear hl hk
  refine (sw_rarg b (64) (9) (1) (by decide)).mono ?_
  rintro e w' ⟨rfl, rfl⟩
  go_wp2_with fail
  rw [rounds_succ]
  go_wp2_with fail
  clear HL
  have hl := heap_alloc_new X5 (.cells #[.int .i64 (-1), .int .i64 0, .int .i64 7, .int .i64 4611686018427387904] 3)
  have hk := HK.out.alloc (.cells #[.int .i64 (-1), .int .i64 0, .int .i64 7, .int .i64 4611686018427387904] 3)
  obtain ⟨Z0, hX⟩ : ∃ X : World, X = (X5.alloc (.cells #[.int .i64 (-1), .int .i64 0, .int .i64 7, .int .i64 4611686018427387904] 3)) := ⟨_, rfl⟩
  rw [← hX] at hl hk ⊢
  clear hX HK
  have HL := hid hl
  have HK := hid hk
  clear hl hk
  have dl0 : Z0.cell? ⟨X5.heap.size, 0, none⟩ = some (.int .i64 (-1)) := by rw [cell_of HL.out]; rfl
  have dl1 : Z0.cell? ⟨X5.heap.size, 1, none⟩ = some (.int .i64 0) := by rw [cell_of HL.out]; rfl
  have dl2 : Z0.cell? ⟨X5.heap.size, 2, none⟩ = some (.int .i64 7) := by rw [cell_of HL.out]; rfl
  have dl3 : Z0.cell? ⟨X5.heap.size, 3, none⟩ = some (.int .i64 4611686018427387904) := by rw [cell_of HL.out]; rfl
  have lz : X5.heap.size < Z0.heap.size := lt_of_block HL.out
  have HSZ := hid (HS.out.quiet HK.out)
  refine wp_loop_rounds 5 ?_
  repeat any_goals (rw [rounds_succ]; go_wp2_with fail)
  refine (sw_rrange HSZ.out exC_ok 63 (-1) 255 (by decide) (by decide) (by decide) (by decide) (by rw [exC_nT]; decide)).mono ?_
  rintro e w' ⟨rfl, rfl⟩
  go_wp2_with fail
  rw [rounds_succ]
  go_wp2_with fail
  refine (sw_rrange HSZ.out exC_ok 63 (0) 255 (by decide) (by decide) (by decide) (by decide) (by rw [exC_nT]; decide)).mono ?_
  rintro e w' ⟨rfl, rfl⟩
  go_wp2_with fail
  rw [rounds_succ]
  go_wp2_with fail
  refine (sw_rrange HSZ.out exC_ok 63 (7) 255 (by decide) (by decide) (by decide) (by decide) (by rw [exC_nT]; decide)).mono ?_
  rintro e w' ⟨rfl, rfl⟩
  go_wp2_with fail
  rw [rounds_succ]
  go_wp2_with fail
  refine (sw_rrange HSZ.out exC_ok 63 (4611686018427387904) 255 (by decide) (by decide) (by decide) (by decide) (by rw [exC_nT]; decide)).mono ?_
  rintro e w' ⟨rfl, rfl⟩
  go_wp2_with fail
  rw [rounds_succ]
  go_wp2_with fail
  refine (sw_rnew HSZ.out exC_ok 0 6 0 (by decide) (by decide) (by decide) (by decide) (by decide) (by rw [exC_nT]; decide)).mono ?_
  rintro e x1 ⟨rfl, hrw⟩
  have HRW := hid hrw
  clear hrw
  go_wp2_with fail
  refine (rres_state HRW.out.at_ rfl).mono ?_
  rintro e x2 ⟨rfl, rfl⟩
  go_wp2_with fail
  refine (twice_1).mono ?_
  rintro e x3 ⟨rfl, hk⟩
  have HX3 := hid (HRW.out.own.trans hk (fun _ _ h => h))
  clear hk HRW
  go_wp2_with fail
  refine (twice_5).mono ?_
  rintro e x4 ⟨rfl, hk⟩
  have HX4 := hid (HX3.out.trans hk (fun _ _ h => h))
  clear hk HX3
  go_wp2_with fail
  refine (lawake_ok).mono ?_
  rintro e x5 ⟨rfl, hk⟩
  have HX5 := hid (HX4.out.trans hk (fun _ _ h => h))
  clear hk HX4
  go_wp2
  go_ret
  exact ⟨rfl, HX5.out⟩
end
end Go.Proofs.YtmafdjhjmnghcaaGreat
