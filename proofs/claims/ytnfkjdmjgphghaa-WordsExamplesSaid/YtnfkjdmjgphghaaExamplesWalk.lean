/- WordsExamples: the walk. -/
import Derived.Test.YtnfkjdmjgphghaaNil
import Derived.Test.YtnfkjdmjgphghaaReplay
import Derived.Test.YtnfkjdmjgphghaaLogFrom
import Derived.Test.YtnfkjdmjgphghaaKit
namespace Go.Proofs.Ytnfkjdmjgphghaa
open Go.RowKit Go.Lf

/-- The log of the chapter's example. -/
def exLog : List Acc := [⟨1, 0, 3, 5, 3, false⟩, ⟨0, 0, 1, 3, 3, false⟩, ⟨2, 1, 4, 0, 9, true⟩, ⟨2, 1, 4, 9, 9, false⟩]
theorem exLog_len : exLog.length = 4 := rfl
theorem ex_wrap : IntKind.u64.wrap (5 + 18446744073709551614) = 3 := by rw [IntKind.wrap_u64]; rfl
theorem ex_after : after [5, 0] exLog = some [3, 9] := by decide
theorem ex_bad : BadAt [0, 0] exLog 0 := ⟨[0, 0], ⟨1, 0, 3, 5, 3, false⟩, rfl, rfl, by decide⟩

theorem ex_add {b : Nat} {F : Nat → Prop} {w : World} (h : MemAt w b F [5, 0] []) :
    Calls Try.prog 18 #[.pointer (some ⟨b, 0, none⟩), .int .i64 1, .int .i64 0, .int .u64 18446744073709551614] w fun e w' => e = .returned (.tuple #[.int .u64 3, .int .i64 0]) ∧ MemTo w b F [3, 0] [⟨1, 0, 3, 5, 3, false⟩] w' := by
  have := add_ok h 1 0 5 18446744073709551614 (by omega) (by omega) (by omega) rfl (by omega) (by omega) (by simp)
  rw [ex_wrap] at this
  exact this

def ExRep1 (w : World) (e : Ending) (w' : World) : Prop := ∃ v, e = .returned (.tuple #[v, .int .i64 4, .int .i64 0]) ∧ Rd w' 1 v 2 (u64s [3, 9]) ∧ Keep Nil w w'
theorem ex_rep1 (va vb : Value) (w : World) (h1 : Rd w 1 va 2 (u64s [5, 0])) (h2 : Rd w 6 vb 4 (logCells exLog)) : Calls Try.prog 15 #[va, vb] w (ExRep1 w) := by
  refine (replay_ok va vb [5, 0] exLog w h1 h2 (by simp) (by simp) (by simp [exLog])).mono ?_
  rintro e w' ⟨hk, ⟨cur, v, ha, rfl, hr⟩ | ⟨k, hb, rfl⟩⟩
  · rw [ex_after] at ha
    obtain rfl := Option.some.inj ha
    exact ⟨v, rfl, hr, hk⟩
  · have := hb.none
    rw [ex_after] at this
    exact absurd this (by simp)
theorem ex_rep2 (va vb : Value) (w : World) (h1 : Rd w 1 va 2 (u64s [0, 0])) (h2 : Rd w 6 vb 4 (logCells exLog)) :
    Calls Try.prog 15 #[va, vb] w fun e w' => e = .returned (.tuple #[.slice none 0 0, .int .i64 0, .int .i64 16]) ∧ Keep Nil w w' := by
  refine (replay_ok va vb [0, 0] exLog w h1 h2 (by simp) (by simp) (by simp [exLog])).mono ?_
  rintro e w' ⟨hk, ⟨cur, v, ha, rfl, hr⟩ | ⟨k, hb, rfl⟩⟩
  · rw [ex_bad.none] at ha
    exact absurd ha (by simp)
  · obtain rfl := ex_bad.one hb
    exact ⟨rfl, hk⟩

set_option maxRecDepth 100000 in
set_option maxHeartbeats 4000000 in
theorem walk_examples (w : World) :
    Calls Try.prog 10 #[] w fun e w' => e = .returned (.bool true) ∧ Keep Nil w w' := by
  go_enter Try.func10, Try.ntmps10
  go_wp2_with fail
  refine (new_ok _ [5, 0] _ (rd_new _ _ _ _ 2 _ ⟨rfl, rfl⟩) (by simp) (by simp)).mono ?_
  rintro e w1 ⟨b, F, rfl, hm, k1, f1⟩
  have HM := hid hm
  have HO := hid (Own.fresh (Keep.alloc (Keep.refl _ _) _) k1 f1)
  clear hm k1 f1
  go_wp2_with fail
  refine (ex_add HM.out).mono ?_
  rintro e w2 ⟨rfl, F2, hm, k, f⟩
  have HM2 := hid hm
  have HO2 := hid (HO.out.step k f)
  clear hm k f HM HO
  go_wp2_with fail
  refine (load_ok HM2.out 0 0 3 (by omega) (by omega) (by omega) rfl (by simp)).mono ?_
  rintro e w3 ⟨rfl, F3, hm, k, f⟩
  have HM3 := hid hm
  have HO3 := hid (HO2.out.step k f)
  clear hm k f HM2 HO2
  go_wp2_with fail
  refine (cas_yes HM3.out 2 1 0 9 (by omega) (by omega) (by omega) rfl (by simp)).mono ?_
  rintro e w4 ⟨rfl, F4, hm, k, f⟩
  have HM4 := hid hm
  have HO4 := hid (HO3.out.step k f)
  clear hm k f HM3 HO3
  go_wp2_with fail
  refine (cas_no HM4.out 2 1 9 0 8 (by omega) (by omega) (by omega) rfl (by omega) (by simp)).mono ?_
  rintro e w5 ⟨rfl, F5, hm, k, f⟩
  have HM5 := hid (show MemAt w5 b F5 [3, 9] exLog from hm)
  have HO5 := hid (HO4.out.step k f)
  clear hm k f HM4 HO4
  go_wp2_with fail
  refine (store_err HM5.out 0 2 1 (by decide)).mono ?_
  rintro e w6 ⟨rfl, rfl⟩
  go_wp2_with fail
  refine (store_err HM5.out 64 0 1 (by decide)).mono ?_
  rintro e w6 ⟨rfl, rfl⟩
  go_wp2_with fail
  refine (store_err HM5.out (-1) 0 1 (by decide)).mono ?_
  rintro e w6 ⟨rfl, rfl⟩
  have HE := hid (show errOf 0 2 2 = 3 from by decide)
  go_wp2_with fail
  have HA := hid (rd_new (w := w5) #[.int .i64 1, .int .i64 0, .int .u8 3, .int .u64 5, .int .u64 3, .bool false, .int .i64 0, .int .i64 0, .int .u8 1, .int .u64 3, .int .u64 3, .bool false, .int .i64 2, .int .i64 1, .int .u8 4, .int .u64 0, .int .u64 9, .bool true, .int .i64 2, .int .i64 1, .int .u8 4, .int .u64 9, .int .u64 9, .bool false] 56 6 4 (logCells exLog) ⟨rfl, rfl⟩)
  have HK := hid (Keep.alloc (Keep.refl Nil w5) (.cells #[.int .i64 1, .int .i64 0, .int .u8 3, .int .u64 5, .int .u64 3, .bool false, .int .i64 0, .int .i64 0, .int .u8 1, .int .u64 3, .int .u64 3, .bool false, .int .i64 2, .int .i64 1, .int .u8 4, .int .u64 0, .int .u64 9, .bool true, .int .i64 2, .int .i64 1, .int .u8 4, .int .u64 9, .int .u64 9, .bool false] 56 (0, 0)))
  generalize hV : Value.slice (some ⟨w5.heap.size, 0, none⟩) 4 4 = va at HA
  generalize hW : w5.alloc (.cells #[.int .i64 1, .int .i64 0, .int .u8 3, .int .u64 5, .int .u64 3, .bool false, .int .i64 0, .int .i64 0, .int .u8 1, .int .u64 3, .int .u64 3, .bool false, .int .i64 2, .int .i64 1, .int .u8 4, .int .u64 0, .int .u64 9, .bool true, .int .i64 2, .int .i64 1, .int .u8 4, .int .u64 9, .int .u64 9, .bool false] 56 (0, 0)) = W at *
  have HM6 := hid (HM5.out.keep HK.out (fun _ _ h => h))
  refine (log_from HM6.out 0 (by simp [exLog])).mono ?_
  rw [show logFrom exLog 0 = exLog from rfl]
  rintro e w6 ⟨v, rfl, hr, hk⟩
  have HR := hid hr
  have HK6 := hid (HK.out.trans hk (fun _ _ h => h))
  have HA6 := hid (rd_keep HA.out hk (fun _ _ h => h))
  have HM7 := hid (HM6.out.keep hk (fun _ _ h => h))
  clear hr hk HM6 HA HK hV hW
  go_wp2_with fail
  refine (eqA_yes v va exLog w6 HR.out HA6.out (by simp [exLog])).mono ?_
  rintro e w7 ⟨rfl, hk⟩
  have HK7 := hid (HK6.out.trans hk (fun _ _ h => h))
  have HA7 := hid (rd_keep HA6.out hk (fun _ _ h => h))
  have HM8 := hid (HM7.out.keep hk (fun _ _ h => h))
  clear hk HM7 HA6 HK6 HR
  go_wp2_with fail
  refine (show Calls Try.prog 22 #[.pointer (some ⟨b, 0, none⟩)] w7 fun e w' => e = .returned (.int .i64 4) ∧ w7 = w' from len_ok HM8.out).mono ?_
  rintro e w8 ⟨rfl, rfl⟩
  go_wp2_with fail
  refine (log_none HM8.out 4 (by simp [exLog])).mono ?_
  rintro e w8 ⟨rfl, rfl⟩
  go_wp2_with fail
  refine (log_none HM8.out (-1) (by simp)).mono ?_
  rintro e w8 ⟨rfl, rfl⟩
  go_wp2_with fail
  have HK8 := hid (HK7.out.alloc (.cells #[.int .u64 5, .int .u64 0] 39 (0, 0)))
  have HA8 := hid (rd_keep HA7.out (Keep.alloc (Keep.refl Nil w7) (.cells #[.int .u64 5, .int .u64 0] 39 (0, 0))) (fun _ _ h => h))
  refine (ex_rep1 _ va _ (rd_new _ _ _ 1 2 _ ⟨rfl, rfl⟩) HA8.out).mono ?_
  rintro e w9 ⟨u, rfl, hr, hk⟩
  have HR := hid hr
  have HK9 := hid (HK8.out.trans hk (fun _ _ h => h))
  have HA9 := hid (rd_keep HA8.out hk (fun _ _ h => h))
  clear hr hk HM8 HA7 HA8 HK7 HK8 HM5
  go_wp2_with fail
  have HK10 := hid (HK9.out.alloc (.cells #[.int .u64 3, .int .u64 9] 39 (0, 0)))
  have HA10 := hid (rd_keep HA9.out (Keep.alloc (Keep.refl Nil w9) (.cells #[.int .u64 3, .int .u64 9] 39 (0, 0))) (fun _ _ h => h))
  refine (eqU_yes u _ [3, 9] _ (rd_keep HR.out (Keep.alloc (Keep.refl Nil w9) _) (fun _ _ h => h)) (rd_new _ _ _ 1 2 _ ⟨rfl, rfl⟩) (by simp)).mono ?_
  rintro e w10 ⟨rfl, hk⟩
  have HK11 := hid (HK10.out.trans hk (fun _ _ h => h))
  have HA11 := hid (rd_keep HA10.out hk (fun _ _ h => h))
  clear hk HR HA9 HA10 HK9 HK10
  go_wp2_with fail
  have HK12 := hid (HK11.out.alloc (.cells #[.int .u64 0, .int .u64 0] 39 (0, 0)))
  refine (ex_rep2 _ va _ (rd_new _ _ _ 1 2 _ ⟨rfl, rfl⟩) (rd_keep HA11.out (Keep.alloc (Keep.refl Nil w10) _) (fun _ _ h => h))).mono ?_
  rintro e w11 ⟨rfl, hk⟩
  have HK13 := hid (HK12.out.trans hk (fun _ _ h => h))
  clear hk HA11 HK11 HK12
  go_wp2_with fail
  refine (load_nil _ _ _).mono ?_
  rintro e w12 ⟨rfl, rfl⟩
  go_wp2_with fail
  refine (peek_nil _ _).mono ?_
  rintro e w12 ⟨rfl, rfl⟩
  go_wp2_with fail
  refine (store_nil _ _ _ _).mono ?_
  rintro e w12 ⟨rfl, rfl⟩
  go_wp2_with fail
  refine (len_nil _).mono ?_
  rintro e w12 ⟨rfl, rfl⟩
  go_wp2_with fail
  refine (log_nil _).mono ?_
  rintro e w12 ⟨rfl, rfl⟩
  go_wp2_with fail
  refine (words_nil _).mono ?_
  rintro e w12 ⟨rfl, rfl⟩
  go_wp2
  go_ret
  exact ⟨rfl, HO5.out.1.trans HK13.out (fun _ _ h => h)⟩
end Go.Proofs.Ytnfkjdmjgphghaa
