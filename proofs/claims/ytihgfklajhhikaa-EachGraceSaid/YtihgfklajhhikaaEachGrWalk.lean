/- EachGrace: the walk. -/
import Derived.Test.YtihgfklajhhikaaEachPlay2
import Derived.Test.YtihgfklajhhikaaKitInts
namespace Go.Proofs.Ytihgfklajhhikaa
open Go.RowKit Go.Lf
section
variable {w wr : World} {rb g sb cb mb : Nat} {F : Nat → Prop} {sl : List (Int × Bool)} {ws : List Int} {th : List ET} {log : List Acc}
theorem slots_pos {K : Int} (h : EInv sl ws th K) : ∀ p ∈ sl, 0 ≤ p.1 := by
  intro p hp
  obtain ⟨i, hi⟩ := List.getElem?_of_mem hp
  obtain ⟨z, hz⟩ : ∃ z, th[i]? = some z := ⟨_, List.getElem?_eq_getElem (by have := lt_of_at hi; have := h.ln; have := h.lt; omega)⟩
  exact (EInv.nn (h.num i z p.1 p.2 hz hi)).1

set_option maxRecDepth 100000 in
set_option maxHeartbeats 16000000 in
theorem grace_ok (n : Int) (n0 : 0 ≤ n) (a : Option Addr) (c : Nat) (l : List Go.Lf.Act) (hrd : Rd w 4 (.slice a l.length c) l.length (actCells l)) (hwf : ∀ x ∈ l, x.wf) (hl : l.length ≤ 400) :
    Calls Try.prog 7 #[.int .u8 n, .slice a l.length c] w fun e w' => e = .returned (.bool true) ∧ Keep Nil w w' := by
  have HB := hid (fun m => @ebegin_any w w (Keep.refl _ _) m)
  have HD := hid hrd
  have HW := hid hwf
  have d0 : decide (400 < (l.length : Int)) = false := decide_eq_false (by omega)
  clear hrd hwf
  go_enter Try.func7, Try.ntmps7
  go_wp2_with fail
  refine (HB.out _).mono ?_
  rintro e w1 ⟨rb, g, sb, cb, mb, F, rfl, hr⟩
  have HG := hid (show EGood w rb g sb cb mb 0 w1 from ⟨_, _, _, F, [], hr, einv_new, Nat.le_refl _, esets_new⟩)
  clear hr HB
  go_wp2_with fail
  refine (play_ok a c l HD.out HW.out (by omega) HG.out).mono ?_
  rintro e w2 ⟨rfl, hg2⟩
  obtain ⟨sl, ws, th, F2, log, hr2, hi2, hl2, -⟩ := hg2
  obtain ⟨nums, hnums⟩ : ∃ nums, nums = sl.map (·.1) := ⟨_, rfl⟩
  have HNU := hid hnums
  clear hnums
  have R2 := hid hr2
  have I2 := hid hi2
  clear hr2 hi2 hl2 HG
  go_wp2
  go_loopw [6, 7] (fun v' i wr => ∃ (k : Nat) (v : Value), k ≤ 6 ∧ i = .int .i64 k ∧ v' = v ∧ wr.ownsRow 0 3 1 v (fopens nums k).length ((fopens nums k).map (Value.int .i64)) ∧ Hid (Keep Nil w2 wr) ∧ ∀ k, v.ownBlock = some k → w2.heap.size ≤ k) (fun _ i _ => 6 - (intOf i).toNat)
  case atStart => exact ⟨0, _, Nat.zero_le _, rfl, rfl, World.ownsRow_nil _ _ _ _, hid (Keep.refl _ _), by simp [Value.ownBlock]⟩
  case round =>
    obtain ⟨k, v, hk, rfl, hvv, ho, HK, hv⟩ := hrel
    obtain rfl : v = _ := hvv.symm
    have HO := hid ho
    have HV := hid hv
    clear ho hv
    by_cases hlt : k < 6
    · obtain ⟨⟨x, bg⟩, hp⟩ : ∃ p, sl[k]? = some p := ⟨_, List.getElem?_eq_getElem (by have := I2.out.ln; omega)⟩
      have hx : nums[k]? = some x := by rw [HNU.out]; simp [hp]
      obtain ⟨z, hz⟩ : ∃ z, th[k]? = some z := ⟨_, List.getElem?_eq_getElem (by have := I2.out.lt; omega)⟩
      have ci := ((R2.out.keep HK.out).cells hz).2.2.1
      obtain ⟨-, -, q1, q2⟩ := EInv.nn (I2.out.num k z x bg hz hp)
      have HX := hid hx
      clear hz hx hp
      cases hin : z.inn with
      | true =>
        have HODD := hid (show x % 2 = 1 from q1 hin)
        rw [hin] at ci
        clear q1 q2 hin
        go_wp2_with (at_builtin; refine wpList_app _ rfl (.tmp 35) (.tmp 37) 39 rfl 3 _ 1 8 Try.underlying39 infoInt rfl (by decide) v (fopens nums k).length ((fopens nums k).map (Value.int .i64)) rfl ?own _ 1 [.int .i64 k] rfl ?rd ?one ?byt ?len ?_)
        case own => exact HO.out.alloc _
        case rd => exact rd_new _ _ _ _ _ _
        case one => simp [Value.oneCell']
        case byt => have := fopens_len nums k; omega
        case len => have := fopens_len nums k; unfold maxLen; omega
        intro a' c' w3 ho hg hs
        have HO3 := hid ho
        have HK3 := hid (Keep.grown (HK.out.alloc _) hg (fun j hj => .inr (HV.out j hj)))
        have HV3 := hid (show ∀ j, (Value.slice a' ((fopens nums k).length + 1) c').ownBlock = some j → w2.heap.size ≤ j from fun j hj => by
          rcases hs j hj with h | h
          · exact HV.out j h
          · have := HK.out.size; simp at h; omega)
        clear ho hg hs
        go_wp2
        go_roundw
        case rel =>
          refine ⟨k + 1, _, by omega, by go_num, rfl, ?_, HK3, HV3.out⟩
          rw [fopens_yes HX.out HODD.out, int_row1, List.length_append]
          exact HO3.out
        case measure => simp [intOf]; omega
      | false =>
        have HODD := hid (show ¬ x % 2 = 1 by have := q2 hin; omega)
        rw [hin] at ci
        clear q1 q2 hin
        go_wp2
        go_roundw
        case rel => exact ⟨k + 1, _, by omega, by go_num, rfl, by rw [fopens_no HX.out HODD.out]; exact HO.out, HK, HV.out⟩
        case measure => simp [intOf]; omega
    · obtain rfl : k = 6 := by omega
      have R3 := hid (R2.out.keep HK.out)
      have cg := R3.out.top.2
      have HF := hid (eopen_ok R3.out.sys.eng (slots_pos I2.out) (by have := I2.out.ln; omega))
      have HL := hid (show (sl.map (·.1)).length = 6 by rw [List.length_map]; exact I2.out.ln)
      clear hlt
      go_wp2_with fail
      refine HF.out.mono ?_
      rintro e w4 ⟨v4, rfl, ho4, hk4, -⟩
      rw [HL.out, ← HNU.out] at ho4
      have E1 := hid (row_rd ho4)
      have E2 := hid (rd_keep (row_rd HO.out) hk4 (fun _ _ h => h))
      have K4 := hid (R3.out.own.1.trans hk4 (fun _ _ h => h))
      clear ho4 hk4 cg HF
      go_wp2_with fail
      refine (eqI_yes _ _ (fopens nums 6) _ (by simpa using E1.out) (by simpa using E2.out) (by have := fopens_len nums 6; omega)).mono ?_
      rintro e w5 ⟨rfl, hk5⟩
      have HH := hid (holds_ok w (w := w5) (K4.out.trans hk5 (fun _ _ h => h)))
      clear hk5
      go_wp2_with fail
      refine HH.out.mono ?_
      rintro e w6 ⟨rfl, hk6⟩
      have HK6 := hid hk6
      clear hk6
      go_wp2
      go_ret
      exact ⟨rfl, HK6.out⟩
end
set_option maxRecDepth 100000 in
theorem grace_out (w : World) (n : Int) (a : Option Addr) (m c : Nat) (hm : 400 < m) (_h : m ≤ maxLen) :
    Calls Try.prog 7 #[.int .u8 n, .slice a m c] w fun e w' => e = .returned (.bool true) ∧ w = w' := by
  have d0 : decide (400 < (m : Int)) = true := decide_eq_true (by omega)
  clear hm
  go_enter Try.func7, Try.ntmps7
  go_wp2
  go_ret
  exact ⟨rfl, rfl⟩
theorem walk_grace (w : World) (n : Int) (bn : (Lit.int .u8 n).wf = true) (v : Value) (l : List Go.Lf.Act) (hrd : Rd w 4 v l.length (actCells l)) (hb : ∀ x ∈ l, Go.Lf.Act.wf x) (hm : l.length ≤ maxLen) :
    Calls Try.prog 7 #[.int .u8 n, v] w fun e w' => e = .returned (.bool true) ∧ Keep Nil w w' := by
  obtain ⟨a, c, rfl, -, -⟩ := id hrd
  by_cases hl : l.length ≤ 400
  · exact grace_ok n (u8_wf bn).1 a c l hrd hb hl
  · refine (grace_out w n a l.length c (by omega) hm).mono ?_
    rintro e w' ⟨h1, rfl⟩
    exact ⟨h1, Keep.refl _ _⟩
end Go.Proofs.Ytihgfklajhhikaa
