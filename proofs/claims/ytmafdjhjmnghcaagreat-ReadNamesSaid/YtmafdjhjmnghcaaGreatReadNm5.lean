/- ReadNames: the examples, nil stores and reads, and what New refuses. -/
import Derived.Test.YtmafdjhjmnghcaaGreatReadNm0
set_option linter.unusedVariables false
set_option linter.unusedSimpArgs false
namespace Go.Proofs.YtmafdjhjmnghcaaGreat
open Go.RowKit Go.Lf
attribute [local go_sem] fld0 fld1 fld2 fld3 fld4 fld5 fld6 fld7 fld8 fld9 fldc fldl
section
variable {w : World}
theorem st1_5 : (RS.init 0 1 5).step exC.lk ((RS.init 0 1 5).word (exC.tow 0) exC.descs (exW 196613 7)) = (⟨0, 1, 5, 0, 196613, 0, false, false, 24, 0⟩ : RS) := by kernel_rfl
theorem st2_5 : (⟨0, 1, 5, 0, 196613, 0, false, false, 24, 0⟩ : RS).step exC.lk ((⟨0, 1, 5, 0, 196613, 0, false, false, 24, 0⟩ : RS).word (exC.tow 0) exC.descs (exW 196613 7)) = (⟨0, 1, 5, 0, 196613, 0, false, false, 26, 0⟩ : RS) := by kernel_rfl
theorem st3_5 : (⟨0, 1, 5, 0, 196613, 0, false, false, 26, 0⟩ : RS).step exC.lk ((⟨0, 1, 5, 0, 196613, 0, false, false, 26, 0⟩ : RS).word (exC.tow 0) exC.descs (exW 196613 7)) = (⟨0, 1, 5, 0, 196613, 60, false, false, 27, 0⟩ : RS) := by kernel_rfl
theorem st4_5 : ((⟨0, 1, 5, 0, 196613, 60, false, false, 27, 0⟩ : RS).runs 2 41 13 ((exW 196613 7).set 45 1) 20).map (fun x => (x.1, x.2.value, x.2.present, x.2.fails, x.2.err, x.2.ended)) = some (2, 50, true, 1, 0, true) := by decide +kernel
set_option maxRecDepth 100000 in
set_option maxHeartbeats 4000000 in
theorem twice_5 : Calls Tryz.prog 40 #[.int .i64 5, .int .i64 0, .int .i64 5] w fun e w' => e = .returned (.bool true) ∧ Keep Nil w w' := by
  obtain ⟨⟨k', s'⟩, hr, hx⟩ := Option.map_eq_some_iff.1 st4_5
  simp only [Prod.mk.injEq] at hx
  obtain ⟨rfl, hv, hp, hfa, her, hen⟩ := hx
  have HR := hid hr
  have HX := hid (And.intro hv (And.intro hp (And.intro hfa (And.intro her hen))))
  clear hr hv hp hfa her hen
  go_enter Tryz.func40, Tryz.ntmps40
  go_wp2_with fail
  refine example_ok.mono ?_
  rintro e w1 ⟨rfl, hk1⟩
  have HK1 := hid hk1
  clear hk1
  go_wp2_with fail
  refine exnew_ok.mono ?_
  rintro e w2 hnew
  obtain ⟨b, mb, rfl, hs⟩ := SW.new HK1.out hnew
  obtain ⟨W0, hW0⟩ : ∃ W, W = ints exC.init := ⟨_, rfl⟩
  have hl0 : W0.length = 79 := by rw [hW0]; exact exC_len
  rw [← hW0] at hs
  have HW0 := hid hW0
  have HS := hid hs
  clear hnew hs HK1 hW0
  go_wp2_with fail
  refine (sw_mem HS.out).mono ?_
  rintro e w3 ⟨rfl, rfl⟩
  go_wp2_with fail
  refine (word_ok HS.out exC_ok (i := 0) (by rw [exC_nT]; decide) 1 1 42 (by decide) (by decide) (by decide) (by rw [exC_tow]; decide)).mono ?_
  rintro e w4 ⟨rfl, rfl⟩
  go_wp2_with fail
  refine (sw_store HS.out 42 _ 50 (by decide) (by decide) (by decide) (List.getElem?_eq_getElem (by rw [hl0]; decide)) (by decide)).mono ?_
  rintro e w5 ⟨rfl, hs⟩
  have HS1 := hid hs
  clear hs HS
  go_wp2_with fail
  refine (word_ok HS1.out exC_ok (i := 0) (by rw [exC_nT]; decide) 1 2 43 (by decide) (by decide) (by decide) (by rw [exC_tow]; decide)).mono ?_
  rintro e w6 ⟨rfl, rfl⟩
  go_wp2_with fail
  refine (sw_store HS1.out 43 _ 60 (by decide) (by decide) (by decide) (List.getElem?_eq_getElem (by rw [List.length_set, hl0]; decide)) (by simp)).mono ?_
  rintro e w7 ⟨rfl, hs⟩
  have HS2 := hid hs
  clear hs HS1
  go_wp2_with fail
  refine (word_ok HS2.out exC_ok (i := 0) (by rw [exC_nT]; decide) 1 4 45 (by decide) (by decide) (by decide) (by rw [exC_tow]; decide)).mono ?_
  rintro e w8 ⟨rfl, rfl⟩
  go_wp2_with fail
  refine (lstate_ok 5 0 3 (by decide) (by decide) (by decide) (by decide) (by decide) (by decide) (by decide) 196613 (by decide)).mono ?_
  rintro e w' ⟨rfl, rfl⟩
  go_wp2_with fail
  refine (sw_store HS2.out 45 _ 196613 (by decide) (by decide) (by decide) (List.getElem?_eq_getElem (by rw [List.length_set, List.length_set, hl0]; decide)) (by simp)).mono ?_
  rintro e w9 ⟨rfl, hs⟩
  have HS3 := hid hs
  clear hs HS2
  go_wp2_with fail
  refine (sw_layout HS3.out).mono ?_
  rintro e w10 ⟨L, rfl, hl, rfl⟩
  have HLAY := hid hl
  clear hl
  go_wp2_with fail
  refine (places_ok HLAY.out).mono ?_
  rintro e w11 ⟨rfl, hk⟩
  have HS4 := hid (HS3.out.quiet hk)
  clear hk HS3 HLAY
  go_wp2_with fail
  refine (ldesc_ok 3 true (by decide) (by decide) 7 (by decide)).mono ?_
  rintro e w' ⟨rfl, rfl⟩
  go_wp2_with fail
  refine (sw_store HS4.out 13 _ 7 (by decide) (by decide) (by decide) (List.getElem?_eq_getElem (by rw [List.length_set, List.length_set, List.length_set, hl0]; decide)) (by simp)).mono ?_
  rintro e w12 ⟨rfl, hs⟩
  have hw0 := HW0.out
  subst hw0
  have hs2 := exW_at 196613 7 _ _ _ _ _ hs
  obtain ⟨log, hlog⟩ : ∃ log : List Acc, log.length = 4 ∧ SW w w12 exC b mb (exW 196613 7) log := ⟨_, rfl, hs2⟩
  have HLOG := hid hlog.1
  have HS5 := hid hlog.2
  clear hs hs2 hlog HS4 HW0 hl0
  go_wp2_with fail
  as_aux_lemma =>
    refine (sw_rnew HS5.out exC_ok 0 1 5 (by decide) (by decide) (by decide) (by decide) (by decide) (by rw [exC_nT]; decide)).mono ?_
    rintro e w13 ⟨rfl, hrw⟩
    have HRW := hid hrw
    have HLN := HLOG
    clear hrw HS5 HLOG
    generalize w12.heap.size = r at *
    go_wp2_with fail
    refine wp_loop_rounds 4 ?_
    repeat any_goals (rw [rounds_succ]; go_wp2_with fail)
    refine (wstep_ok (i := 0) HRW.out ⟨exC_ok, by rw [exC_nT]; decide, rfl, by decide, by decide, exW_wf (by decide) (by decide) (by decide) (by decide), by rw [exW_len, exC_words]; decide, by rw [HLN.out]; decide⟩ (init_good _ _ _ _)).mono ?_
    rw [st1_5]
    rintro e x1 ⟨rfl, log', hl, hrw⟩
    have HRW := hid hrw
    have HLN := hid (show log'.length = 5 from by rw [hl, HLN.out])
    clear hrw hl
    go_wp2_with fail
    rw [rounds_succ]
    go_wp2_with fail
    refine (wstep_ok (i := 0) HRW.out ⟨exC_ok, by rw [exC_nT]; decide, rfl, by decide, by decide, exW_wf (by decide) (by decide) (by decide) (by decide), by rw [exW_len, exC_words]; decide, by rw [HLN.out]; decide⟩ ⟨.inr (.inl rfl), ⟨by decide, by decide⟩, fun _ => by decide, rfl, ⟨by decide, by decide⟩, ⟨by decide, by decide⟩⟩).mono ?_
    rw [st2_5]
    rintro e x2 ⟨rfl, log', hl, hrw⟩
    have HRW := hid hrw
    have HLN := hid (show log'.length = 6 from by rw [hl, HLN.out])
    clear hrw hl
    go_wp2_with fail
    rw [rounds_succ]
    go_wp2_with fail
    refine (wstep_ok (i := 0) HRW.out ⟨exC_ok, by rw [exC_nT]; decide, rfl, by decide, by decide, exW_wf (by decide) (by decide) (by decide) (by decide), by rw [exW_len, exC_words]; decide, by rw [HLN.out]; decide⟩ ⟨.inr (.inr (.inr (.inl rfl))), ⟨by decide, by decide⟩, fun e => absurd e (by decide), rfl, ⟨by decide, by decide⟩, ⟨by decide, by decide⟩⟩).mono ?_
    rw [st3_5]
    rintro e x3 ⟨rfl, log', hl, hrw⟩
    have HRW := hid hrw
    have HLN := hid (show log'.length = 7 from by rw [hl, HLN.out])
    clear hrw hl
    go_wp2_with fail
    rw [rounds_succ]
    go_wp2_with fail
    as_aux_lemma =>
      refine (word_ok HRW.out.sw exC_ok (i := 0) (by rw [exC_nT]; decide) 1 4 45 (by decide) (by decide) (by decide) (by rw [exC_tow]; decide)).mono ?_
      rintro e w14 ⟨rfl, rfl⟩
      go_wp2_with fail
      refine (lstate_ok 1 0 0 (by decide) (by decide) (by decide) (by decide) (by decide) (by decide) (by decide) 1 (by decide)).mono ?_
      rintro e w' ⟨rfl, rfl⟩
      go_wp2_with fail
      obtain ⟨A, hA1, hA2, hA3⟩ := HRW.out.ex
      obtain ⟨L5, F5, G5, hsp5⟩ := hA1
      have HSP5 := hid hsp5
      have hx45 : (exW 196613 7)[45]? = some 196613 := by decide +kernel
      have HX45 := hid hx45
      clear hsp5 hx45
      refine (store_ok HSP5.out.mem 0 45 196613 1 (by decide) (by decide) (by decide) HX45.out (by rw [HLN.out]; decide)).mono ?_
      rintro e w15 ⟨rfl, hto⟩
      have hrw := RW.mem hA2 hA3 HRW.out.at_ HRW.out.ge HRW.out.own (HSP5.out.turn (Keep.refl Nil _) hto)
      have HRW3 := hid hrw
      clear hto hrw HSP5
      go_wp2_with fail
      refine (wrun_ok (i := 0) HRW3.out ⟨exC_ok, by rw [exC_nT]; decide, rfl, by decide, by decide, set_wf' (exW_wf (by decide) (by decide) (by decide) (by decide)) (by decide) (by decide) _, by rw [List.length_set, exW_len, exC_words]; decide, by simp only [List.length_append, HLN.out, List.length_singleton]; decide⟩ ⟨.inr (.inr (.inr (.inr rfl))), ⟨by decide, by decide⟩, fun e => absurd e (by decide), rfl, ⟨by decide, by decide⟩, ⟨by decide, by decide⟩⟩ (by decide) (k := 2) (s' := s') (by rw [exC_tow, exC_descs]; exact HR.out)).mono ?_
      rintro e w16 ⟨rfl, log', hl', hrw⟩
      have HRW2 := hid hrw
      clear hrw hl' HRW HRW3
      have hres := rres_ok HRW2.out.at_ HX.out.2.2.2.2
      rw [HX.out.1, HX.out.2.1, HX.out.2.2.1, HX.out.2.2.2.1] at hres
      go_wp2_with fail
      refine hres.mono ?_
      rintro e w17 ⟨rfl, hk⟩
      have HK := hid (HRW2.out.own.trans hk (fun _ _ h => h))
      clear hk hres
      go_wp2
      go_ret
      exact ⟨rfl, HK.out⟩
end
end Go.Proofs.YtmafdjhjmnghcaaGreat
