/- the statement SessionNames: the walk. -/
import Derived.Test.YtjghenomeindcaaGreatSessNames
set_option linter.unusedVariables false
set_option linter.unusedSimpArgs false
namespace Go.Proofs.YtjghenomeindcaaGreat
open Go.RowKit Go.Lf
attribute [local go_sem] fld0 fld1 fld2 fld3 fld4 fld5 fld6 fld7 fld8 fld9 fldc fldl
section
variable {w : World}
theorem sstep_nil : Calls Tryz.prog 9 #[.pointer none] w fun e w' => e = .returned (.tuple #[.int .u8 0, .bool false]) ∧ w = w' := by
  go_enter Tryz.func9, Tryz.ntmps9
  go_wp2
  go_ret2
  exact ⟨rfl, rfl⟩
set_option maxRecDepth 100000 in
set_option maxHeartbeats 8000000 in
theorem walk_snames (w : World) : Calls Tryz.prog 3 #[] w fun e w' => e = .returned (.bool true) ∧ Keep Nil w w' := by
  obtain ⟨rest, hinit, hrest, hrl⟩ := ex_init
  have HI := hid hinit
  have HR := hid hrest
  have HL := hid hrl
  clear hinit hrest hrl
  go_enter Tryz.func3, Tryz.ntmps3
  go_wp2_with fail
  refine (snew_nil 0).mono ?_
  rintro e w1 ⟨rfl, hk⟩
  have HK1 := hid hk
  clear hk
  go_wp2_with fail
  refine sstep_nil.mono ?_
  rintro e w2 ⟨rfl, rfl⟩
  go_wp2_with fail
  refine sres_nil.mono ?_
  rintro e w3 ⟨rfl, hk⟩
  have HK3 := hid (HK1.out.trans hk (fun _ _ h => h))
  clear hk HK1
  go_wp2_with fail
  refine snext_nil.mono ?_
  rintro e w4 ⟨rfl, rfl⟩
  go_wp2_with fail
  refine (sclose_nil).mono ?_
  rintro e w5 ⟨rfl, hk⟩
  have HK5 := hid (HK3.out.trans hk (fun _ _ h => h))
  clear hk HK3
  go_wp2_with fail
  refine (sowners_nil).mono ?_
  rintro e w6 ⟨rfl, rfl⟩
  go_wp2_with fail
  refine example_ok.mono ?_
  rintro e w7 ⟨rfl, hk⟩
  have HK7 := hid (HK5.out.trans hk (fun _ _ h => h))
  clear hk HK5
  go_wp2_with fail
  refine exnew_ok.mono ?_
  rintro e w8 hnew
  obtain ⟨b, mb, rfl, hs⟩ := SW.new HK7.out hnew
  rw [HI.out] at hs
  have HS8 := hid (hs.quiet ((Keep.refl Nil w8).alloc (.cells #[.int .i64 (-1), .int .i64 64, .int .i64 4611686018427387904] 3 (0, 0))))
  have hrow := heap_alloc_new w8 (.cells #[.int .i64 (-1), .int .i64 64, .int .i64 4611686018427387904] 3 (0, 0))
  have HROW := hid hrow
  clear hnew hs hrow HK7
  go_wp2_with fail
  obtain ⟨rb, hrb⟩ : ∃ rb, rb = w8.heap.size := ⟨_, rfl⟩
  obtain ⟨X0, hX0⟩ : ∃ X, X = w8.alloc (.cells #[.int .i64 (-1), .int .i64 64, .int .i64 4611686018427387904] 3 (0, 0)) := ⟨_, rfl⟩
  rw [← hX0]
  rw [← hX0] at HS8
  have HROW0 := hid (show X0.heap[w8.heap.size]? = some (.cells #[.int .i64 (-1), .int .i64 64, .int .i64 4611686018427387904] 3 (0, 0)) from by rw [hX0]; exact HROW.out)
  have r0 : X0.cell? ⟨w8.heap.size, 0, none⟩ = some (.int .i64 (-1)) := cell_of HROW0.out 0
  clear hX0 HROW hrb
  refine wp_loop_rounds 4 ?_; repeat any_goals (rw [rounds_succ]; go_wp2_with fail)
  refine (snew_bad b (-1) (by decide)).mono ?_
  rintro e Y0 ⟨rfl, hk⟩
  have HA0 := hid (HS8.out.quiet hk)
  have HRA0 := hid (hk.at HROW0.out (fun h => h))
  clear hk HS8 HROW0 r0
  go_wp2_with fail
  refine (sclose_bad b (by decide)).mono ?_
  rintro e Z0 ⟨rfl, hk⟩
  have HB0 := hid (HA0.out.quiet hk)
  have HRB0 := hid (hk.at HRA0.out (fun h => h))
  have r1 : Z0.cell? ⟨w8.heap.size, 1, none⟩ = some (.int .i64 64) := cell_of HRB0.out 1
  clear hk HA0 HRA0
  go_wp2_with fail
  rw [rounds_succ]
  go_wp2_with fail
  refine (snew_bad b 64 (by decide)).mono ?_
  rintro e Y1 ⟨rfl, hk⟩
  have HA1 := hid (HB0.out.quiet hk)
  have HRA1 := hid (hk.at HRB0.out (fun h => h))
  clear hk HB0 HRB0 r1
  go_wp2_with fail
  refine (sclose_bad b (by decide)).mono ?_
  rintro e Z1 ⟨rfl, hk⟩
  have HB1 := hid (HA1.out.quiet hk)
  have HRB1 := hid (hk.at HRA1.out (fun h => h))
  have r2 : Z1.cell? ⟨w8.heap.size, 2, none⟩ = some (.int .i64 4611686018427387904) := cell_of HRB1.out 2
  clear hk HA1 HRA1
  go_wp2_with fail
  rw [rounds_succ]
  go_wp2_with fail
  refine (snew_bad b 4611686018427387904 (by decide)).mono ?_
  rintro e Y2 ⟨rfl, hk⟩
  have HA2 := hid (HB1.out.quiet hk)
  have HRA2 := hid (hk.at HRB1.out (fun h => h))
  clear hk HB1 HRB1 r2
  go_wp2_with fail
  refine (sclose_bad b (by decide)).mono ?_
  rintro e Z2 ⟨rfl, hk⟩
  have HB2 := hid (HA2.out.quiet hk)
  have HRB2 := hid (hk.at HRA2.out (fun h => h))
  clear hk HA2 HRA2
  go_wp2_with fail
  rw [rounds_succ]
  go_wp2_with fail
  clear HRB2
  refine (sw_open HB2.out exC_ok (by simp [exC]) (by decide) (by decide) (by decide)).mono ?_
  rintro e w3 ⟨s, st, err, ws', log', rfl, hs, hsp, hlen⟩
  obtain ⟨rfl, rfl, rfl, rfl⟩ := hsp.first (k := 0) (by decide) rfl (fun j hj => by omega)
  have HS3 := hid hs
  have HL1 := hid (show log'.length ≤ 64 from by simpa using hlen)
  clear hs hsp hlen HB2
  go_wp2_with fail
  refine (sw_open HS3.out exC_ok (by simp [exC]) (by decide) (by decide) (by have := HL1.out; omega)).mono ?_
  rintro e w4 ⟨s, st, err, ws', log2, rfl, hs, hsp, hlen⟩
  obtain ⟨rfl, rfl, rfl, rfl⟩ := hsp.first (k := 1) (by decide) rfl (fun j hj => by obtain rfl : j = 0 := (by omega); exact ⟨_, rfl, by decide⟩)
  have HS4 := hid hs
  have HL2 := hid (show log2.length ≤ 128 from by have := HL1.out; omega)
  clear hs hsp hlen HS3 HL1
  go_wp2_with fail
  refine (sw_new HS4.out exC_ok (by decide) (by decide)).mono ?_
  rintro e v1 ⟨o, a, cp, rfl, hO, hk, -, -⟩
  have HS5 := hid (HS4.out.quiet hk)
  have HO := hid hO
  clear hk hO HS4
  go_wp2_with fail
  refine (sres_state 2 HO.out (by decide)).mono ?_
  rintro e v2 ⟨rfl, hk⟩
  have HS6 := hid (HS5.out.quiet hk)
  clear hk HS5 HO
  go_wp2_with fail
  refine (sw_close_state HS6.out exC_ok (by decide) (by decide) (by decide) (by decide) (x := 2) rfl (by decide)).mono ?_
  rintro e v3 ⟨rfl, hk⟩
  have HS7 := hid (HS6.out.quiet hk)
  clear hk HS6
  go_wp2_with fail
  refine (sw_close_range HS7.out exC_ok (by decide) (by decide) (by decide)).mono ?_
  rintro e v4 ⟨rfl, hk⟩
  have HS8 := hid (HS7.out.quiet hk)
  clear hk HS7
  go_wp2_with fail
  refine (sw_close_range HS8.out exC_ok (by decide) (by decide) (by decide)).mono ?_
  rintro e v5 ⟨rfl, hk⟩
  have HS9 := hid (HS8.out.quiet hk)
  clear hk HS8
  go_wp2_with fail
  refine (sw_close HS9.out exC_ok (by decide) (by decide) (by decide) (by decide) rfl (by have := HL2.out; omega)).mono ?_
  rintro e v6 ⟨rfl, hs⟩
  have HS10 := hid hs
  clear hs HS9
  go_wp2_with fail
  refine (sw_close_state HS10.out exC_ok (by decide) (by decide) (by decide) (by decide) (x := 0) rfl (by decide)).mono ?_
  rintro e v7 ⟨rfl, hk⟩
  have HS11 := hid (HS10.out.quiet hk)
  clear hk HS10
  go_wp2_with fail
  refine (sw_open HS11.out exC_ok (by simp [exC]) (by decide) (by decide) (by have := HL2.out; simp; omega)).mono ?_
  rintro e v8 ⟨s, st, err, ws', log3, rfl, hs, hsp, hlen⟩
  obtain ⟨rfl, rfl, rfl, rfl⟩ := hsp.first (k := 0) (by decide) rfl (fun j hj => by omega)
  have HS12 := hid hs
  have HL3 := hid (show log3.length ≤ 1000 from by have := HL2.out; simp at hlen; omega)
  clear hs hsp hlen HS11 HL2
  go_wp2_with fail
  refine (sw_layout HS12.out).mono ?_
  rintro e v9 ⟨L, rfl, hl, rfl⟩
  have HLAY := hid hl
  clear hl
  go_wp2_with fail
  refine (places_ok HLAY.out).mono ?_
  rintro e v10 ⟨rfl, hk⟩
  have HS13 := hid (HS12.out.quiet hk)
  clear hk HS12 HLAY
  go_wp2_with fail
  refine (sw_mem HS13.out).mono ?_
  rintro e v11 ⟨rfl, rfl⟩
  go_wp2_with fail
  refine (sw_store HS13.out 1 1 65 (by decide) (by decide) (by decide) rfl (by have := HL3.out; omega)).mono ?_
  rintro e v12 ⟨rfl, hs⟩
  have HS14 := hid hs
  clear hs HS13
  go_wp2_with fail
  refine (sw_owners HS14.out exC_ok (by simp [exC]) (by
    intro x hx
    have hx' : x ∈ (3 : Int) :: 65 :: rest := hx
    simp only [List.mem_cons] at hx'
    rcases hx' with rfl | rfl | hx'
    · decide
    · decide
    · exact HR.out x hx') (l := [2, -1]) rfl).mono ?_
  rintro e v13 ⟨g, rfl, hg, -, hk⟩
  have HG := hid hg
  have HK := hid (HS14.out.own.trans hk (fun _ _ h => h))
  clear hg hk
  go_wp2_with fail
  refine (eqI_yes _ _ [2, -1] _ (own_rd HG.out ((Keep.refl Nil v13).alloc _)) (rd_new _ _ _ _ _ _) (by decide)).mono ?_
  rintro e v14 ⟨rfl, hk⟩
  have HK14 := hid ((HK.out.alloc _).trans hk (fun _ _ h => h))
  clear hk
  go_wp2_with fail
  refine (awake_ok).mono ?_
  rintro e v15 ⟨rfl, hk⟩
  have HK15 := hid (HK14.out.trans hk (fun _ _ h => h))
  clear hk
  go_wp2
  go_ret
  exact ⟨rfl, HK15.out⟩
end
end Go.Proofs.YtjghenomeindcaaGreat
