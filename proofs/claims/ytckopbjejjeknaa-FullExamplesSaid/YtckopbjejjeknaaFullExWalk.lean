/- FullExamples: the walk. -/
import Derived.Test.YtckopbjejjeknaaFullEx
import Derived.Test.YtckopbjejjeknaaKitInts
namespace Go.Lf
def exw (k : Nat) : WS := if k = 0 then ⟨0, 0, 0⟩ else ⟨0, 1, 1⟩
end Go.Lf
namespace Go.Proofs.Ytckopbjejjeknaa
open Go.RowKit Go.Lf

set_option maxRecDepth 100000 in
set_option maxHeartbeats 16000000 in
theorem walk_fex (w : World) : Calls Try.prog 11 #[] w fun e w' => e = .returned (.bool true) ∧ Keep Nil w w' := by
  go_enter Try.func11, Try.ntmps11
  go_wp2_with fail
  refine (new_ok _ [0, 0] _ (rd_new _ _ _ 1 2 _ ⟨rfl, rfl⟩) (by simp) (by simp)).mono ?_
  rintro e w2 ⟨mb, F, rfl, hm, k2, f2⟩
  have HM := hid hm
  have HO := hid (Own.fresh ((Keep.refl Nil w).alloc _) k2 f2)
  clear hm k2 f2
  go_wp2_with fail
  refine (fnew_ok HM.out (by simp) 0 2 (by decide)).mono ?_
  rintro e w3 ⟨g, nb, bb, rfl, hg, k3, lg, lnb, lbb⟩
  have X3 := hid (FEx.new HO.out.1 HM.out HO.out.2 hg k3 lg lnb lbb)
  clear hg k3 lg lnb lbb HM HO
  -- Enter
  have HC := hid (fenter_ok (t := 0) (i := 0) X3.out.sys 5 (by decide) (by decide) (by decide) (by decide) 0 rfl (by decide) (by decide) rfl)
  go_wp2_with fail
  refine HC.out.mono ?_
  rintro e w4 ⟨rfl, hs4, he4, hk4, hz4⟩
  have X4 := hid (X3.out.adv hs4 hk4 (fun k hk => .inl hk) (fun k hk => .inr (by rw [hk]; exact X3.out.obb)))
  have NF := hid (show ¬ F w3.heap.size from fun h => by have := X3.out.sys.mem.lt _ h; omega)
  have LE := hid X3.out.old
  have E4 := hid he4
  clear hs4 he4 hk4 hz4 X3 HC
  generalize w3.heap.size = eb at *
  go_wp2_with fail
  refine (fent_next E4.out).mono ?_
  rintro e w5 ⟨rfl, rfl⟩
  have HC := hid (fexit_state (t := 0) (i := 0) X4.out.sys.eng (by decide) (by decide) (x := 0) rfl (by decide) (by decide))
  go_wp2_with fail
  refine HC.out.mono ?_
  rintro e w5 ⟨rfl, rfl⟩
  clear HC
  -- the step
  have HC := hid (fent_step X4.out.sys E4.out NF.out 0 0 (by decide) (by decide) rfl (by decide) (by decide) (by decide) (by decide) (by decide) rfl (by decide))
  go_wp2_with fail
  refine HC.out.mono ?_
  rintro e w5 ⟨rfl, F5, hs5, he5, hk5, hf5, -⟩
  have X5 := hid (show FEx w w5 g nb bb mb F5 0 [1, 0] [false, false] [1, 0] [⟨0, 0, 2, 0, 1, false⟩] from X4.out.adv hs5 hk5 hf5 (fun k hk => by
    rcases hk with hk | hk | hk | hk
    · exact .inl hk
    · exact .inr (by rw [hk]; exact X4.out.onb)
    · exact .inr (by rw [hk]; exact X4.out.obb)
    · exact .inr (by rw [hk]; exact LE.out)))
  clear hs5 he5 hk5 hf5 X4 E4 NF LE HC
  have HC := hid (fopen_ok X5.out.sys.eng (fun x hx => by simp at hx; omega) (by decide))
  go_wp2_with fail
  refine HC.out.mono ?_
  rintro e w6 ⟨v6, rfl, ho6, hk6, -⟩
  have X6 := hid (X5.out.quiet hk6)
  have RD := hid (row_rd ho6)
  clear ho6 hk6 X5 HC
  go_wp2_with fail
  refine (eqI_yes _ _ [0] _ (rd_keep RD.out ((Keep.refl Nil _).alloc _) (fun _ _ h => h)) (rd_new _ _ _ 1 1 _ ⟨rfl, rfl⟩) (by decide)).mono ?_
  rintro e w7 ⟨rfl, hk7⟩
  have X7 := hid (X6.out.quiet (((Keep.refl Nil _).alloc _).trans hk7 (fun _ _ h => h)))
  clear hk7 X6 RD
  -- Wait
  go_wp2_with fail
  refine (fwait_ok (by decide) (by decide) 1 (by decide)).mono ?_
  rintro e w8 ⟨rfl, hw8, hk8, hz8⟩
  have X8 := hid (X7.out.quiet hk8)
  have NF := hid (show ¬ F5 w7.heap.size from fun h => by have := X7.out.sys.mem.lt _ h; omega)
  have LE := hid X7.out.old
  have W8 := hid hw8
  clear hw8 hk8 hz8 X7
  generalize w7.heap.size = wb at *
  go_wp2
  go_loopw [10] (fun i wr => ∃ k : Nat, k ≤ 2 ∧ i = .int .i64 k ∧ Hid (∃ F log, FEx w wr g nb bb mb F 0 [1, 0] [false, false] [1, 0] log ∧ log.length ≤ 1 + k ∧ WaitAt wr wb g 1 (exw k) ∧ ¬ F wb)) (fun i _ => 2 - (intOf i).toNat)
  case atStart => exact ⟨0, by omega, rfl, hid ⟨_, _, X8.out, by decide, W8.out, NF.out⟩⟩
  case round =>
    obtain ⟨k, hk, rfl, HR⟩ := hrel
    clear X8 NF W8
    obtain ⟨F9, log9, hx9, hl9, hw9, hn9⟩ := HR.out
    by_cases hlt : k < 2
    · have hp : (exw k).pos = 0 := by unfold exw; split <;> rfl
      have hst : (exw k).st < 2 := by unfold exw; split <;> decide
      have hnx : (exw k).step 2 1 = exw (k + 1) := by
        have : k = 0 ∨ k = 1 := by omega
        rcases this with rfl | rfl <;> rfl
      have hc := fwait_step hx9.sys hw9 hn9 (by omega) hst 1 (by decide) (by decide) (by decide) (by decide) (by decide) (by rw [hp]; rfl) (by omega)
      rw [show ([1, 0] : List Int).length = 2 from rfl, hnx] at hc
      have HC := hid hc
      have HX := hid hx9
      have d1 : decide (2 ≤ (exw (k + 1)).st) = false := by unfold exw; rw [if_neg (by omega)]; rfl
      have HL := hid hl9
      clear hp hst hnx hc hx9 hl9 hw9 hn9 HR
      go_wp2_with fail
      refine HC.out.mono ?_
      rintro e w10 ⟨rfl, F10, hs10, hw10, hk10, hf10, hn10⟩
      have HQ := hid (show ∃ F log, FEx w w10 g nb bb mb F 0 [1, 0] [false, false] [1, 0] log ∧ log.length ≤ 1 + (k + 1) ∧ WaitAt w10 wb g 1 (exw (k + 1)) ∧ ¬ F wb from
        ⟨F10, _, HX.out.adv hs10 hk10 hf10 (fun k hk => by
          rcases hk with hk | hk
          · exact .inl hk
          · exact .inr (by rw [hk]; exact LE.out)), by have := HL.out; simp; omega, hw10, hn10⟩)
      clear hs10 hw10 hk10 hf10 hn10 HC HX HL
      rw [d1]
      clear d1
      go_wp2
      go_roundw
      case rel => exact ⟨k + 1, by omega, by go_num, HQ⟩
      case measure => simp [intOf]; omega
    · obtain rfl : k = 2 := by omega
      have X9 := hid hx9
      have W9 := hid (show WaitAt wr wb g 1 ⟨0, 1, 1⟩ from hw9)
      have N9 := hid hn9
      have L9 := hid hl9
      clear hx9 hw9 hn9 hl9 HR hlt hk
      have HC := hid (fenter_busy (t := 0) (v := 5) (i := 0) X9.out.sys.eng (by decide) (by decide) (by decide) (by decide) (x := 1) rfl (by decide) (b := false) rfl (.inr (by decide)))
      go_wp2_with fail
      refine HC.out.mono ?_
      rintro e w10 ⟨rfl, rfl⟩
      clear HC
      have HC := hid (fexit_ok (t := 0) (i := 0) X9.out.sys 1 1 (by decide) (by decide) rfl (by decide) (by decide) (by decide) (by decide) (by decide) (by decide) rfl (by have := L9.out; omega))
      go_wp2_with fail
      refine HC.out.mono ?_
      rintro e w10 ⟨rfl, F10, hs10, hk10, hf10⟩
      have X10 := hid (show FEx w w10 g nb bb mb F10 0 [2, 0] [false, false] [2, 0] (log9 ++ [⟨0, 0, 2, 1, 2, false⟩]) from X9.out.adv hs10 hk10 hf10 (fun k hk => by
        rcases hk with hk | hk | hk
        · exact .inl hk
        · exact .inr (by rw [hk]; exact X9.out.onb)
        · exact .inr (by rw [hk]; exact X9.out.obb)))
      have W10 := hid (W9.out.keepW hk10 (fun hk => by
        rcases hk with hk | hk | hk
        · exact N9.out hk
        · exact type_ne W9.out X9.out.sys.eng.hnums (by decide) hk
        · exact type_ne W9.out X9.out.sys.eng.hbeg (by decide) hk))
      have N10 := hid (show ¬ F10 wb from fun h => (hf10 wb h).elim N9.out (fun h => by have := lt_of_block W9.out; omega))
      clear hs10 hk10 hf10 X9 W9 N9 HC
      have HC := hid (fwait_step X10.out.sys W10.out N10.out (by decide) (by decide) 2 (by decide) (by decide) (by decide) (by decide) (by decide) rfl (by have := L9.out; simp; omega))
      go_wp2_with fail
      refine HC.out.mono ?_
      rintro e w11 ⟨rfl, F11, hs11, hw11, hk11, hf11, hn11⟩
      have X11 := hid (X10.out.adv hs11 hk11 hf11 (fun k hk => by
        rcases hk with hk | hk
        · exact .inl hk
        · exact .inr (by rw [hk]; exact LE.out)))
      have W11 := hid (show WaitAt w11 wb g 1 ⟨1, 0, 1⟩ from hw11)
      have N11 := hid hn11
      clear hs11 hk11 hf11 hw11 hn11 X10 W10 N10 HC
      have HC := hid (fwait_step X11.out.sys W11.out N11.out (by decide) (by decide) 0 (by decide) (by decide) (by decide) (by decide) (by decide) rfl (by have := L9.out; simp; omega))
      go_wp2_with fail
      refine HC.out.mono ?_
      rintro e w12 ⟨rfl, F12, hs12, hw12, hk12, hf12, hn12⟩
      have X12 := hid (X11.out.adv hs12 hk12 hf12 (fun k hk => by
        rcases hk with hk | hk
        · exact .inl hk
        · exact .inr (by rw [hk]; exact LE.out)))
      clear hs12 hk12 hf12 hw12 hn12 X11 W11 N11 HC
      have HC := hid (fopen_ok X12.out.sys.eng (fun x hx => by simp at hx; omega) (by decide))
      go_wp2_with fail
      refine HC.out.mono ?_
      rintro e w13 ⟨v13, rfl, ho13, hk13, -⟩
      have X13 := hid (X12.out.quiet hk13)
      obtain ⟨a13, c13, rfl⟩ := row_slice ho13
      clear ho13 hk13 X12 HC
      have HC := hid (fexit_state (t := 0) (i := 0) X13.out.sys.eng (by decide) (by decide) (x := 2) rfl (by decide) (by decide))
      go_wp2_with fail
      refine HC.out.mono ?_
      rintro e w14 ⟨rfl, rfl⟩
      clear HC
      go_wp2_with fail
      refine (fwait_zero g (by decide) (by decide)).mono ?_
      rintro e w14 ⟨rfl, rfl⟩
      have HC := hid (fenter_slot (v := 64) (e0 := 3) (fslot_three X13.out.sys.eng 0 2 (by decide) (by decide) (.inr (by decide))) (by decide))
      go_wp2_with fail
      refine HC.out.mono ?_
      rintro e w14 ⟨rfl, rfl⟩
      clear HC
      have HC := hid (fun (wq : World) => fenter_slot (v := 0) (e0 := 1) (@fslot_nil wq 0 0) (by decide))
      go_wp2_with fail
      refine (HC.out _).mono ?_
      rintro e w14 ⟨rfl, rfl⟩
      clear HC
      have HC := hid (fun (wq : World) => fexit_slot (e0 := 1) (@fslot_nil wq 0 0) (by decide))
      go_wp2_with fail
      refine (HC.out _).mono ?_
      rintro e w14 ⟨rfl, rfl⟩
      clear HC
      have HC := hid (fun (wq : World) => fwait_thread (x := 1) (e0 := 1) (@fthread_nil wq 0) (by decide))
      go_wp2_with fail
      refine (HC.out _).mono ?_
      rintro e w14 ⟨rfl, rfl⟩
      clear HC
      go_wp2_with fail
      refine fent_nil.mono ?_
      rintro e w14 ⟨rfl, rfl⟩
      go_wp2_with fail
      refine fwait_nil.mono ?_
      rintro e w14 ⟨rfl, rfl⟩
      go_wp2_with fail
      refine fopen_nil.mono ?_
      rintro e w14 ⟨rfl, rfl⟩
      go_wp2_with fail
      refine fent_next_nil.mono ?_
      rintro e w14 ⟨rfl, rfl⟩
      go_wp2_with fail
      refine fwnext_nil.mono ?_
      rintro e w14 ⟨rfl, rfl⟩
      go_wp2
      go_ret
      exact ⟨rfl, X13.out.own.1⟩
end Go.Proofs.Ytckopbjejjeknaa
