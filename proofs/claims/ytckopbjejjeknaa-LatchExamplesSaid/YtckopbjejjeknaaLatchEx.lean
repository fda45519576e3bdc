/- LatchExamples: the walk. -/
import Derived.Test.YtckopbjejjeknaaLocks
import Derived.Test.YtckopbjejjeknaaNil
namespace Go.Proofs.Ytckopbjejjeknaa
open Go.RowKit Go.Lf

set_option maxRecDepth 100000 in
set_option maxHeartbeats 8000000 in
theorem walk_lex (w : World) : Calls Try.prog 6 #[] w fun e w' => e = .returned (.bool true) ∧ Keep Nil w w' := by
  go_enter Try.func6, Try.ntmps6
  go_wp2_with fail
  refine (new_ok _ [0] _ (rd_new _ _ _ 1 1 _ ⟨rfl, rfl⟩) (by simp) (by simp)).mono ?_
  rintro e w1 ⟨mb, F, rfl, hm, k1, f1⟩
  have S1 := hid (Sys.fresh (Keep.alloc (Keep.refl _ _) _) hm k1 f1)
  clear hm k1 f1
  go_wp2_with fail
  refine (lnew_ok S1.out.mem 0 0 0 (by decide)).mono ?_
  rintro e w2 ⟨rfl, hl, hk, hz⟩
  have S2 := hid (S1.out.add hl hk)
  clear hl hk hz S1
  generalize w1.heap.size = la at *
  go_wp2_with fail
  refine (lnew_ok S2.out.mem 1 0 2 (by decide)).mono ?_
  rintro e w3 ⟨rfl, hl, hk, hz⟩
  have S3 := hid (S2.out.add hl hk)
  clear hl hk hz S2
  generalize w2.heap.size = lb at *
  simp only [List.nil_append, List.cons_append] at S3
  go_wp2_with fail
  refine (lnext_any _ (S3.out.lk (i := 0) rfl)).mono ?_
  rintro e w4 ⟨rfl, rfl⟩
  go_wp2_with fail
  refine (lres_any _ (S3.out.lk (i := 0) rfl)).mono ?_
  rintro e w4 ⟨n4, rfl, rfl⟩
  have S4 := hid (S3.out.keep ((Keep.refl Nil _).drewN n4))
  clear S3
  generalize w3.drewN n4 = w4 at *
  go_wp2_with fail
  refine (lstep_yes S4.out.mem _ (S4.out.lk (i := 0) rfl) rfl (S4.out.nf (i := 0) rfl) (by simp) (by simp) (by simp) rfl (by simp)).mono ?_
  rintro e w5 ht
  obtain ⟨rfl, F5, hs⟩ := S4.out.step (i := 0) rfl ht
  have S5 := hid hs
  clear hs ht S4
  simp only [List.set_cons_zero, Int.toNat_zero, List.nil_append] at S5
  go_wp2_with fail
  refine (lres_any _ (S5.out.lk (i := 0) rfl)).mono ?_
  rintro e w6 ⟨n6, rfl, rfl⟩
  have S6 := hid (S5.out.keep ((Keep.refl Nil _).drewN n6))
  clear S5
  generalize w5.drewN n6 = w6 at *
  go_wp2_with fail
  refine (lnext_any _ (S6.out.lk (i := 0) rfl)).mono ?_
  rintro e w7 ⟨rfl, rfl⟩
  go_wp2_with fail
  refine (lstep_no S6.out.mem _ (S6.out.lk (i := 1) rfl) rfl (S6.out.nf (i := 1) rfl) (by simp) (by simp) (by simp) (0 + 1) rfl (by simp) (by simp) (by simp) (by simp)).mono ?_
  rintro e w7 ht
  obtain ⟨rfl, F7, hs⟩ := S6.out.step (i := 1) rfl ht
  have S7 := hid hs
  clear hs ht S6
  rw [show LS.step ⟨0, 2, 1, 0, true, 0⟩ (0 + 1) = ⟨1, 2, 1, 0, true, 0⟩ from rfl] at S7
  simp only [List.set_cons_zero, List.set_cons_succ, List.cons_append, List.nil_append] at S7
  go_wp2_with fail
  refine (lstep_no S7.out.mem _ (S7.out.lk (i := 1) rfl) rfl (S7.out.nf (i := 1) rfl) (by simp) (by simp) (by simp) (0 + 1) rfl (by simp) (by simp) (by simp) (by simp)).mono ?_
  rintro e w8 ht
  obtain ⟨rfl, F8, hs⟩ := S7.out.step (i := 1) rfl ht
  have S8 := hid hs
  clear hs ht S7
  rw [show LS.step ⟨1, 2, 1, 0, true, 0⟩ (0 + 1) = ⟨2, 2, 1, 0, false, 11⟩ from rfl] at S8
  simp only [List.set_cons_zero, List.set_cons_succ, List.cons_append, List.nil_append] at S8
  go_wp2_with fail
  refine (lres_any _ (S8.out.lk (i := 1) rfl)).mono ?_
  rintro e w9 ⟨n9, rfl, rfl⟩
  have S9 := hid (S8.out.keep ((Keep.refl Nil _).drewN n9))
  clear S8
  generalize w8.drewN n9 = w9 at *
  go_wp2_with fail
  refine (lstep_idle _ (S9.out.lk (i := 1) rfl) rfl).mono ?_
  rintro e w10 ⟨rfl, rfl⟩
  go_wp2_with fail
  refine (unlock_state S9.out.mem 1 0 (by decide) (0 + 1) rfl (by omega)).mono ?_
  rintro e w10 ⟨rfl, rfl⟩
  go_wp2_with fail
  refine (unlock_ok S9.out.mem 0 0 (by decide) rfl (by simp)).mono ?_
  rintro e w10 ⟨rfl, hto⟩
  obtain ⟨F10, hs⟩ := S9.out.mem' hto
  have S10 := hid hs
  clear hs hto S9
  go_wp2_with fail
  refine (unlock_state S10.out.mem 0 0 (by decide) 0 rfl (by omega)).mono ?_
  rintro e w11 ⟨rfl, rfl⟩
  go_wp2_with fail
  refine lstep_nil.mono ?_
  rintro e w11 ⟨rfl, rfl⟩
  go_wp2_with fail
  refine lres_nil.mono ?_
  rintro e w11 ⟨rfl, rfl⟩
  go_wp2_with fail
  refine (lnew_nil _ _ _).mono ?_
  rintro e w11 ⟨rfl, rfl⟩
  go_wp2_with fail
  refine (unlock_nil _ _).mono ?_
  rintro e w11 ⟨rfl, rfl⟩
  go_wp2_with fail
  refine lnext_nil.mono ?_
  rintro e w11 ⟨rfl, rfl⟩
  go_wp2
  go_ret
  exact ⟨rfl, S10.out.own.1⟩
end Go.Proofs.Ytckopbjejjeknaa
