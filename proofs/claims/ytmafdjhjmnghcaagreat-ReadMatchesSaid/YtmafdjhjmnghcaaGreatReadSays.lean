/- the statements on reads: the examples. -/
import Derived.Test.YtmafdjhjmnghcaaGreatReadLaw
import Derived.Test.YtmafdjhjmnghcaaGreatStoreSw
set_option linter.unusedVariables false
set_option linter.unusedSimpArgs false
namespace Go.Lf
/-- The words of the example: value 50, alternative value 60, state s, descriptor d. -/
def exW (s d : Int) : List Int := ((((ints exC.init).set 42 50).set 43 60).set 45 s).set 13 d
/-- Steps, value, present, failures, error, ended. -/
def sayQ (tr s d : Int) : Option (Nat × Int × Bool × Int × Int × Bool) := ((RS.init 0 1 tr).runs 2 41 13 (exW s d) 20).map fun x => (x.1, x.2.value, x.2.present, x.2.fails, x.2.err, x.2.ended)
theorem exC_len : (ints exC.init).length = 79 := by decide +kernel
theorem exC_tow : exC.tow 0 = 41 := by decide +kernel
theorem exC_descs : exC.descs = 13 := by decide +kernel
theorem exC_wf : ∀ x ∈ ints exC.init, 0 ≤ x ∧ x < 18446744073709551616 := by decide +kernel
theorem exC_nT : exC.nT = 6 := by decide +kernel
theorem exC_words : exC.words = 79 := by decide +kernel
theorem exW_len (s d : Int) : (exW s d).length = 79 := by unfold exW; simp only [List.length_set]; exact exC_len
theorem set_wf' {ws : List Int} (h : ∀ x ∈ ws, 0 ≤ x ∧ x < 18446744073709551616) {v : Int} (h0 : 0 ≤ v) (h1 : v < 18446744073709551616) (i : Nat) : ∀ x ∈ ws.set i v, 0 ≤ x ∧ x < 18446744073709551616 := by
  intro x hx
  rcases List.mem_or_eq_of_mem_set hx with hx | rfl
  · exact h x hx
  · exact ⟨h0, h1⟩
theorem exW_wf {s d : Int} (s0 : 0 ≤ s) (s1 : s < 18446744073709551616) (d0 : 0 ≤ d) (d1 : d < 18446744073709551616) : ∀ x ∈ exW s d, 0 ≤ x ∧ x < 18446744073709551616 :=
  set_wf' (set_wf' (set_wf' (set_wf' exC_wf (by decide) (by decide) _) (by decide) (by decide) _) s0 s1 _) d0 d1 _
end Go.Lf
namespace Go.Proofs.YtmafdjhjmnghcaaGreat
open Go.RowKit Go.Lf
attribute [local go_sem] fld0 fld1 fld2 fld3 fld4 fld5 fld6 fld7 fld8 fld9 fldc fldl
section
variable {w : World}
theorem sw_rnew {wr : World} {c : Cfg} {b mb : Nat} {ws : List Int} {log : List Acc} (h : SW w wr c b mb ws log) (hok : c.ok) (t tw tr : Int) (t0 : 0 ≤ t) (t1 : t < 64) (r0 : 0 ≤ tr) (r1 : tr ≤ 255) (w0 : 1 ≤ tw) (w1 : tw ≤ (c.nT : Int)) :
    Calls Tryz.prog 33 #[.pointer (some ⟨b, 0, none⟩), .int .i64 t, .int .i64 tw, .int .i64 tr] wr fun e w' => e = .returned (.tuple #[.pointer (some ⟨wr.heap.size, 0, none⟩), .int .i64 0]) ∧ RW w w' c b mb ws log wr.heap.size (RS.init t tw tr) := by
  obtain ⟨A, ⟨L, F, G, hsp⟩, hA⟩ := h.ex
  exact (rdnew_ok hsp hok t tw tr t0 t1 r0 r1 w0 w1).mono fun e w' hn => RW.new h hn
theorem init_good (lk t tw tr : Int) : (RS.init t tw tr).good lk := ⟨.inl rfl, ⟨Int.le_refl 0, by show (0 : Int) < _; decide⟩, fun e => absurd e (by show ¬ ((23 : Int) = 24); decide), rfl, ⟨Int.le_refl 0, by show (0 : Int) < _; decide⟩, ⟨Int.le_refl 0, by show (0 : Int) < _; decide⟩⟩
theorem exW_at (s d : Int) : ∀ w wr b mb log, SW w wr exC b mb (((((ints exC.init).set 42 50).set 43 60).set 45 s).set 13 d) log → SW w wr exC b mb (exW s d) log := fun _ _ _ _ _ h => h
set_option maxRecDepth 100000 in
set_option maxHeartbeats 4000000 in
theorem says_ok (s d : Int) (s0 : 0 ≤ s) (s1 : s < 18446744073709551616) (d0 : 0 ≤ d) (d1 : d < 18446744073709551616) (n v : Int) (k : Nat) (hn : n = k) (p : Bool) (hq : sayQ 5 s d = some (k, v, p, 0, 0, true)) :
    Calls Tryz.prog 37 #[.int .u64 s, .int .u64 d, .int .i64 n, .int .u64 v, .bool p] w fun e w' => e = .returned (.bool true) ∧ Keep Nil w w' := by
  obtain ⟨⟨k', s'⟩, hr, hx⟩ := Option.map_eq_some_iff.1 hq
  simp only [Prod.mk.injEq] at hx
  obtain ⟨rfl, hv, hp, hfa, her, hen⟩ := hx
  have HR := hid hr
  have HX := hid (And.intro hv (And.intro hp (And.intro hfa (And.intro her hen))))
  have HWF := hid (exW_wf s0 s1 d0 d1)
  clear hq hr hv hp hfa her hen s0 s1 d0 d1
  subst hn
  go_enter Tryz.func37, Tryz.ntmps37
  go_wp2_with fail
  refine example_ok.mono ?_
  rintro e w1 ⟨rfl, hk1⟩
  have HK1 := hid hk1
  clear hk1
  go_wp2_with fail
  refine exnew_ok.mono ?_
  rintro e w2 hnew
  obtain ⟨b, mb, rfl, hs⟩ := SW.new HK1.out hnew
  obtain ⟨W0, hW0⟩ : ∃ W, W = ints exC.init := ⟨_, rfl⟩
  have hl0 : W0.length = 79 := by rw [hW0]; exact exC_len
  rw [← hW0] at hs
  have HW0 := hid hW0
  have HS := hid hs
  clear hnew hs HK1 hW0
  go_wp2_with fail
  refine (sw_mem HS.out).mono ?_
  rintro e w3 ⟨rfl, rfl⟩
  go_wp2_with fail
  refine (word_ok HS.out exC_ok (i := 0) (by rw [exC_nT]; decide) 1 1 42 (by decide) (by decide) (by decide) (by rw [exC_tow]; decide)).mono ?_
  rintro e w4 ⟨rfl, rfl⟩
  go_wp2_with fail
  refine (sw_store HS.out 42 _ 50 (by decide) (by decide) (by decide) (List.getElem?_eq_getElem (by rw [hl0]; decide)) (by decide)).mono ?_
  rintro e w5 ⟨rfl, hs⟩
  have HS1 := hid hs
  clear hs HS
  go_wp2_with fail
  refine (word_ok HS1.out exC_ok (i := 0) (by rw [exC_nT]; decide) 1 2 43 (by decide) (by decide) (by decide) (by rw [exC_tow]; decide)).mono ?_
  rintro e w6 ⟨rfl, rfl⟩
  go_wp2_with fail
  refine (sw_store HS1.out 43 _ 60 (by decide) (by decide) (by decide) (List.getElem?_eq_getElem (by rw [List.length_set, hl0]; decide)) (by simp)).mono ?_
  rintro e w7 ⟨rfl, hs⟩
  have HS2 := hid hs
  clear hs HS1
  go_wp2_with fail
  refine (word_ok HS2.out exC_ok (i := 0) (by rw [exC_nT]; decide) 1 4 45 (by decide) (by decide) (by decide) (by rw [exC_tow]; decide)).mono ?_
  rintro e w8 ⟨rfl, rfl⟩
  go_wp2_with fail
  refine (sw_store HS2.out 45 _ s (by decide) (by decide) (by decide) (List.getElem?_eq_getElem (by rw [List.length_set, List.length_set, hl0]; decide)) (by simp)).mono ?_
  rintro e w9 ⟨rfl, hs⟩
  have HS3 := hid hs
  clear hs HS2
  go_wp2_with fail
  refine (sw_layout HS3.out).mono ?_
  rintro e w10 ⟨L, rfl, hl, rfl⟩
  have HLAY := hid hl
  clear hl
  go_wp2_with fail
  refine (places_ok HLAY.out).mono ?_
  rintro e w11 ⟨rfl, hk⟩
  have HS4 := hid (HS3.out.quiet hk)
  clear hk HS3 HLAY
  go_wp2_with fail
  refine (sw_store HS4.out 13 _ d (by decide) (by decide) (by decide) (List.getElem?_eq_getElem (by rw [List.length_set, List.length_set, List.length_set, hl0]; decide)) (by simp)).mono ?_
  rintro e w12 ⟨rfl, hs⟩
  have hw0 := HW0.out
  subst hw0
  have hs2 := exW_at s d _ _ _ _ _ hs
  obtain ⟨log, hlog⟩ : ∃ log : List Acc, log.length = 4 ∧ SW w w12 exC b mb (exW s d) log := ⟨_, rfl, hs2⟩
  have HLOG := hid hlog.1
  have HS5 := hid hlog.2
  clear hs hs2 hlog HS4 HW0 hl0
  go_wp2_with fail
  refine (sw_rnew HS5.out exC_ok 0 1 5 (by decide) (by decide) (by decide) (by decide) (by decide) (by rw [exC_nT]; decide)).mono ?_
  rintro e w13 ⟨rfl, hrw⟩
  have HRW := hid hrw
  clear hrw HS5
  generalize w12.heap.size = r at *
  go_wp2_with fail
  refine (wrun_ok (i := 0) HRW.out ⟨exC_ok, by rw [exC_nT]; decide, rfl, by decide, by decide, HWF.out, by rw [exW_len, exC_words]; decide, by rw [HLOG.out]; decide⟩ (init_good _ _ _ _) (by decide) (k := k') (s' := s') (by rw [exC_tow, exC_descs]; exact HR.out)).mono ?_
  rintro e w14 ⟨rfl, log', hl', hrw⟩
  have HRW2 := hid hrw
  clear hrw hl' HRW
  have hres := rres_ok HRW2.out.at_ HX.out.2.2.2.2
  rw [HX.out.1, HX.out.2.1, HX.out.2.2.1, HX.out.2.2.2.1] at hres
  go_wp2_with fail
  refine hres.mono ?_
  rintro e w15 ⟨rfl, hk⟩
  have HK := hid (HRW2.out.own.trans hk (fun _ _ h => h))
  clear hk hres
  go_wp2
  go_ret
  exact ⟨rfl, HK.out⟩
end
end Go.Proofs.YtmafdjhjmnghcaaGreat
