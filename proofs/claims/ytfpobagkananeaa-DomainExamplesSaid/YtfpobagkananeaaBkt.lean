/- leapfrogref03: In, Members, Bucket, Buckets; domain.Bucket: contracts. -/
import Derived.Test.YtfpobagkananeaaDomRef
import Derived.Test.YtfpobagkananeaaBktPlain
import Derived.Test.YtfpobagkananeaaMembers
import Derived.BigQuiet
set_option linter.unusedVariables false
set_option linter.unusedSimpArgs false
namespace Go.Lf
theorem and_bit {v s : Nat} (hv : v < 64) (hs : s < 18446744073709551616) : (Go.bits .and .u64 (s : Int) ((2 ^ v : Nat) : Int) != 0) = s.testBit v := by
  rw [bits_and_u64 hs (pow_lt64 hv)]
  cases h : s.testBit v with
  | true =>
    have h1 : (s &&& 2 ^ v).testBit v = true := by rw [Nat.testBit_and, Nat.testBit_two_pow_self, h]; rfl
    have h2 : s &&& 2 ^ v ≠ 0 := fun e => by rw [e] at h1; simp at h1
    exact bne_iff_ne.2 (by omega)
  | false =>
    have h2 : s &&& 2 ^ v = 0 := by
      apply Nat.eq_of_testBit_eq
      intro i
      rw [Nat.testBit_and, Nat.testBit_two_pow, Nat.zero_testBit]
      by_cases e : v = i
      · subst e; rw [h, Bool.false_and]
      · rw [decide_eq_false e, Bool.and_false]
    rw [h2]
    rfl
end Go.Lf
namespace Go.Proofs.Ytfpobagkananeaa
open Go.RowKit Go.Lf
section
variable {w : World}
set_option maxHeartbeats 400000 in
theorem in_any (s v : Nat) (hs : s < 18446744073709551616) (hv : v < 64) : Calls Try.prog 45 #[.int .u64 s, .int .i64 v] w fun e w' => e = .returned (.bool (s.testBit v)) ∧ w = w' := by
  have hb := @bit_any w v hv
  obtain ⟨p, hp⟩ : ∃ p : Int, p = ((2 ^ v : Nat) : Int) := ⟨_, rfl⟩
  have ha : (Go.bits .and .u64 (s : Int) p != 0) = s.testBit v := by rw [hp]; exact and_bit hv hs
  rw [← hp] at hb
  generalize s.testBit v = t at ha ⊢
  have HB := hid hb
  clear hb hp
  go_enter Try.func45, Try.ntmps45
  go_wp2_with fail
  refine HB.out.mono ?_
  rintro e w' ⟨rfl, rfl⟩
  go_wp2
  go_ret
  first
    | exact ⟨rfl, rfl⟩
    | exact ⟨by rw [ha], rfl⟩
set_option maxHeartbeats 1000000 in
theorem rmembers_any (s : Nat) (hs : s < 18446744073709551616) : Calls Try.prog 34 #[.int .u64 s] w (NumsTo w (mems s 64)) := by
  go_enter Try.func34, Try.ntmps34
  go_wp2
  go_loopw [3, 4] (fun v' i wr => ∃ (k : Nat) (v : Value), k ≤ 64 ∧ i = .int .i64 k ∧ v' = v ∧ wr.ownsRow 0 3 1 v (mems s k).length (nums (mems s k)) ∧ Keep Nil w wr ∧ ∀ k, v.ownBlock = some k → w.heap.size ≤ k) (fun _ i _ => 64 - (intOf i).toNat)
  case atStart => exact ⟨0, _, Nat.zero_le _, rfl, rfl, World.ownsRow_nil _ _ _ _, Keep.refl _ _, by simp [Value.ownBlock]⟩
  case round =>
    obtain ⟨k, v, hk, rfl, hvv, ho, hkk, hv⟩ := hrel
    obtain rfl : v = _ := hvv.symm
    have HO := hid ho
    have HK := hid hkk
    have HV := hid hv
    have hml := mems_length s k
    clear ho hkk hv
    by_cases hlt : k < 64
    · have HI := hid (fun (w : World) => @in_any w s k hs hlt)
      have HM := hid (mems_succ s k)
      cases hb : s.testBit k with
      | true =>
        have hM := hid (HM.out.trans (if_pos hb))
        rw [hb] at HI
        clear hb HM
        go_wp2_with fail
        refine (HI.out _).mono ?_
        rintro e w' ⟨rfl, rfl⟩
        go_wp2_with (at_builtin; refine wpList_app _ rfl (.tmp 12) (.tmp 14) 23 rfl 3 _ 1 8 Try.underlying23 infoInt rfl (by decide) v (mems s k).length (nums (mems s k)) rfl ?own _ 1 [.int .i64 k] rfl ?rd ?one ?byt ?len ?_)
        case own => exact HO.out.alloc _
        case rd => exact rd_new _ _ _ _ _ _
        case one => simp [Value.oneCell']
        case byt => omega
        case len => unfold maxLen; omega
        intro a' c' w3 ho hg hs
        have HO3 := hid ho
        have HK3 := hid (Keep.grown (HK.out.alloc _) hg (fun j hj => .inr (HV.out j hj)))
        have HV3 := hid (show ∀ j, (Value.slice a' ((mems s k).length + 1) c').ownBlock = some j → w.heap.size ≤ j from fun j hj => by
          rcases hs j hj with h | h
          · exact HV.out j h
          · have := HK.out.size; simp at h; omega)
        clear ho hg hs
        go_wp2
        go_roundw
        case rel =>
          refine ⟨k + 1, _, by omega, by go_num, rfl, ?_, HK3.out, HV3.out⟩
          rw [hM.out, nums_snoc, List.length_append]
          exact HO3.out
        case measure => simp [intOf]; omega
      | false =>
        have hM := hid (HM.out.trans (if_neg (by rw [hb]; decide)))
        rw [hb] at HI
        clear hb HM
        go_wp2_with fail
        refine (HI.out _).mono ?_
        rintro e w' ⟨rfl, rfl⟩
        go_wp2
        go_roundw
        case rel => exact ⟨k + 1, _, by omega, by go_num, rfl, by rw [hM.out]; exact HO.out, HK.out, HV.out⟩
        case measure => simp [intOf]; omega
    · obtain rfl : k = 64 := by omega
      go_wp2
      go_ret
      exact ⟨_, rfl, row_rd HO.out, HK.out⟩

/-! Bucket. -/
set_option maxHeartbeats 400000 in
theorem rbucket_ok (v n : Nat) (hv : v < 64) (h1 : 1 ≤ n) (h2 : n ≤ 16) : Calls Try.prog 31 #[.int .i64 v, .int .i64 n] w fun e w' => e = .returned (.tuple #[.int .i64 ((v % n : Nat) : Int), .int .i64 0]) ∧ w = w' := by
  have d1 : decide ((n : Int) < 1) = false := decide_eq_false (by omega)
  have d2 : decide (16 < (n : Int)) = false := decide_eq_false (by omega)
  have d3 : decide ((v : Int) < 0) = false := decide_eq_false (by omega)
  have d4 : decide (64 ≤ (v : Int)) = false := decide_eq_false (by omega)
  have dn : ((n : Int) == 0) = false := beq_eq_false_iff_ne.2 (by omega)
  go_enter Try.func31, Try.ntmps31
  go_wp2
  go_ret2
  exact ⟨by simp, rfl⟩
/-- The error of Bucket. -/
def bktErr (v n : Int) : Int := if n < 1 ∨ 16 < n then 2 else if v < 0 ∨ 64 ≤ v then 3 else 0
set_option maxHeartbeats 1000000 in
theorem rbucket_err (v n : Int) (he : bktErr v n ≠ 0) : Calls Try.prog 31 #[.int .i64 v, .int .i64 n] w fun e w' => e = .returned (.tuple #[.int .i64 0, .int .i64 (bktErr v n)]) ∧ w = w' := by
  by_cases h1 : n < 1
  · rw [show bktErr v n = 2 from if_pos (.inl h1)]
    have d1 : decide (n < 1) = true := decide_eq_true h1
    clear h1 he
    go_enter Try.func31, Try.ntmps31
    go_wp2
    go_ret2
    exact ⟨rfl, rfl⟩
  have d1 : decide (n < 1) = false := decide_eq_false h1
  by_cases h2 : 16 < n
  · rw [show bktErr v n = 2 from if_pos (.inr h2)]
    have d2 : decide (16 < n) = true := decide_eq_true h2
    clear h1 h2 he
    go_enter Try.func31, Try.ntmps31
    go_wp2
    go_ret2
    exact ⟨rfl, rfl⟩
  have d2 : decide (16 < n) = false := decide_eq_false h2
  have e0 : bktErr v n = if v < 0 ∨ 64 ≤ v then 3 else 0 := if_neg (by omega)
  by_cases h3 : v < 0
  · rw [e0, if_pos (.inl h3)]
    have d3 : decide (v < 0) = true := decide_eq_true h3
    clear h1 h2 h3 he e0
    go_enter Try.func31, Try.ntmps31
    go_wp2
    go_ret2
    exact ⟨rfl, rfl⟩
  have d3 : decide (v < 0) = false := decide_eq_false h3
  by_cases h4 : 64 ≤ v
  · rw [e0, if_pos (.inr h4)]
    have d4 : decide (64 ≤ v) = true := decide_eq_true h4
    clear h1 h2 h3 h4 he e0
    go_enter Try.func31, Try.ntmps31
    go_wp2
    go_ret2
    exact ⟨rfl, rfl⟩
  · exact absurd (e0.trans (if_neg (by omega))) he
set_option maxHeartbeats 400000 in
theorem some_ok (n : Nat) (h1 : 1 ≤ n) (h2 : n ≤ 16) : Calls Try.prog 42 #[.int .i64 n] w fun e w' => e = .returned (.int .i64 0) ∧ w = w' := by
  have d1 : decide ((n : Int) < 1) = false := decide_eq_false (by omega)
  have d2 : decide (16 < (n : Int)) = false := decide_eq_false (by omega)
  go_enter Try.func42, Try.ntmps42
  go_wp2
  go_ret
  exact ⟨rfl, rfl⟩
set_option maxHeartbeats 400000 in
theorem some_no (n : Int) (h : n < 1 ∨ 16 < n) : Calls Try.prog 42 #[.int .i64 n] w fun e w' => e = .returned (.int .i64 2) ∧ w = w' := by
  by_cases h1 : n < 1
  · have d1 : decide (n < 1) = true := decide_eq_true h1
    clear h1 h
    go_enter Try.func42, Try.ntmps42
    go_wp2
    go_ret
    exact ⟨rfl, rfl⟩
  · have d1 : decide (n < 1) = false := decide_eq_false h1
    have d2 : decide (16 < n) = true := decide_eq_true (by omega)
    clear h1 h
    go_enter Try.func42, Try.ntmps42
    go_wp2
    go_ret
    exact ⟨rfl, rfl⟩
set_option maxHeartbeats 400000 in
theorem bucket_ok (v n : Nat) (hv : v < 64) (h1 : 1 ≤ n) (h2 : n ≤ 16) : Calls Try.prog 29 #[.int .i64 v, .int .i64 n] w fun e w' => e = .returned (.tuple #[.int .i64 ((v % n : Nat) : Int), .int .i64 0]) ∧ w = w' := by
  have d3 : decide ((v : Int) < 0) = false := decide_eq_false (by omega)
  have d4 : decide (64 ≤ (v : Int)) = false := decide_eq_false (by omega)
  have dn : ((n : Int) == 0) = false := beq_eq_false_iff_ne.2 (by omega)
  have HS := hid (@some_ok w n h1 h2)
  go_enter Try.func29, Try.ntmps29
  go_wp2_with fail
  refine HS.out.mono ?_
  rintro e w' ⟨rfl, rfl⟩
  go_wp2
  go_ret2
  exact ⟨by simp, rfl⟩
set_option maxHeartbeats 1000000 in
theorem bucket_err (v n : Int) (he : bktErr v n ≠ 0) : Calls Try.prog 29 #[.int .i64 v, .int .i64 n] w fun e w' => e = .returned (.tuple #[.int .i64 0, .int .i64 (bktErr v n)]) ∧ w = w' := by
  by_cases h1 : n < 1 ∨ 16 < n
  · rw [show bktErr v n = 2 from if_pos h1]
    have HS := hid (@some_no w n h1)
    clear h1 he
    go_enter Try.func29, Try.ntmps29
    go_wp2_with fail
    refine HS.out.mono ?_
    rintro e w' ⟨rfl, rfl⟩
    go_wp2
    go_ret2
    exact ⟨rfl, rfl⟩
  have e0 : bktErr v n = if v < 0 ∨ 64 ≤ v then 3 else 0 := if_neg h1
  obtain ⟨m, rfl⟩ : ∃ m : Nat, n = m := ⟨n.toNat, by omega⟩
  have HS := hid (@some_ok w m (by omega) (by omega))
  by_cases h3 : v < 0
  · rw [e0, if_pos (.inl h3)]
    have d3 : decide (v < 0) = true := decide_eq_true h3
    clear h1 h3 he e0
    go_enter Try.func29, Try.ntmps29
    go_wp2_with fail
    refine HS.out.mono ?_
    rintro e w' ⟨rfl, rfl⟩
    go_wp2
    go_ret2
    exact ⟨rfl, rfl⟩
  have d3 : decide (v < 0) = false := decide_eq_false h3
  by_cases h4 : 64 ≤ v
  · rw [e0, if_pos (.inr h4)]
    have d4 : decide (64 ≤ v) = true := decide_eq_true h4
    clear h1 h3 h4 he e0
    go_enter Try.func29, Try.ntmps29
    go_wp2_with fail
    refine HS.out.mono ?_
    rintro e w' ⟨rfl, rfl⟩
    go_wp2
    go_ret2
    exact ⟨rfl, rfl⟩
  · exact absurd (e0.trans (if_neg (by omega))) he

/-! The reference's Buckets. -/
set_option maxHeartbeats 1000000 in
theorem rbuckets_bad (s : Int) (n : Int) (h : n < 1 ∨ 16 < n) : Calls Try.prog 32 #[.int .u64 s, .int .i64 n] w fun e w' => e = .returned (.tuple #[.slice none 0 0, .int .i64 2]) ∧ w = w' := by
  by_cases h1 : n < 1
  · have d1 : decide (n < 1) = true := decide_eq_true h1
    clear h1 h
    go_enter Try.func32, Try.ntmps32
    go_wp2
    go_ret2
    exact ⟨rfl, rfl⟩
  · have d1 : decide (n < 1) = false := decide_eq_false h1
    have d2 : decide (16 < n) = true := decide_eq_true (by omega)
    clear h1 h
    go_enter Try.func32, Try.ntmps32
    go_wp2
    go_ret2
    exact ⟨rfl, rfl⟩
def BktsTo (w : World) (l : List Nat) (e : Ending) (w' : World) : Prop := ∃ v, e = .returned (.tuple #[v, .int .i64 0]) ∧ Rd w' 1 v l.length (nums l) ∧ Keep Nil w w' ∧ ∀ k, v.ownBlock = some k → w.heap.size ≤ k
set_option maxRecDepth 100000 in
set_option maxHeartbeats 2000000 in
theorem rbuckets_ok (s n : Nat) (hs : s < 18446744073709551616) (h1 : 1 ≤ n) (h2 : n ≤ 16) : Calls Try.prog 32 #[.int .u64 s, .int .i64 n] w (BktsTo w (bkts s n)) := by
  have d1 : decide ((n : Int) < 1) = false := decide_eq_false (by omega)
  have d2 : decide (16 < (n : Int)) = false := decide_eq_false (by omega)
  go_enter Try.func32, Try.ntmps32
  go_wp2
  go_loopw [6, 7] (fun v' i wr => ∃ (k : Nat) (v : Value), k ≤ n ∧ i = .int .i64 k ∧ v' = v ∧ wr.ownsRow 0 3 1 v (bktTo s n k).length (nums (bktTo s n k)) ∧ Keep Nil w wr ∧ ∀ k, v.ownBlock = some k → w.heap.size ≤ k) (fun _ i _ => n - (intOf i).toNat)
  case atStart => exact ⟨0, _, Nat.zero_le _, rfl, rfl, World.ownsRow_nil _ _ _ _, Keep.refl _ _, by simp [Value.ownBlock]⟩
  case round =>
    obtain ⟨k, v, hk, rfl, hvv, ho, hkk, hv⟩ := hrel
    obtain rfl : v = _ := hvv.symm
    have HO := hid ho
    have HK := hid hkk
    have HV := hid hv
    have hml := bktTo_len s n k
    clear ho hkk hv
    by_cases hlt : k < n
    · have HM := hid (bktTo_succ s n k)
      have HE := hid (fun j (h : 64 ≤ k + j * n) => hasB_end (s := s) (n := n) (b := k) (j := j) (by omega) hlt h hs)
      go_wp2
      go_loop [8, 9] (fun b i => ∃ (j m : Nat), Hid (m = k + j * n) ∧ m < 64 + n ∧ i = .int .i64 m ∧ b = .bool (hasB s n k j)) (fun _ i => 80 - (intOf i).toNat)
      case atStart => exact ⟨0, k, hid (by omega), by omega, rfl, by rw [hasB_zero]⟩
      case round =>
        obtain ⟨j, m, HMM, hm, rfl, rfl⟩ := hrel
        by_cases hm64 : m < 64
        · have HI := hid (fun (w : World) => @in_any w s m hs hm64)
          have HS := hid (show hasB s n k (j + 1) = (hasB s n k j || s.testBit m) by rw [HMM.out]; exact hasB_succ s n k j)
          have HNX := hid (show m + n = k + (j + 1) * n by rw [HMM.out, Nat.add_mul]; omega)
          generalize s.testBit m = tb at HI HS
          generalize hasB s n k j = hb at *
          cases hb with
          | true =>
            go_wp2
            go_round
            case rel => exact ⟨j + 1, m + n, HNX, by omega, by go_num, by rw [HS.out]; rfl⟩
            case measure => simp [intOf]; omega
          | false =>
            go_wp2_with fail
            refine (HI.out _).mono ?_
            rintro e w' ⟨rfl, rfl⟩
            go_wp2
            go_round
            case rel => exact ⟨j + 1, m + n, HNX, by omega, by go_num, by rw [HS.out]; simp⟩
            case measure => simp [intOf]; omega
        · have he := HE.out j (by have := HMM.out; omega)
          have HEE := hid he
          clear he
          cases hb : inB s n k with
          | true =>
            have hM := hid (HM.out.trans (if_pos hb))
            have hh : hasB s n k j = true := by rw [HEE.out]; exact hb
            rw [hh]
            clear hb hh HM HEE HE
            go_wp2_with (at_builtin; refine wpList_app _ rfl (.tmp 34) (.tmp 36) 23 rfl 3 _ 1 8 Try.underlying23 infoInt rfl (by decide) v (bktTo s n k).length (nums (bktTo s n k)) rfl ?own _ 1 [.int .i64 k] rfl ?rd ?one ?byt ?len ?_)
            case own => exact HO.out.alloc _
            case rd => exact rd_new _ _ _ _ _ _
            case one => simp [Value.oneCell']
            case byt => omega
            case len => unfold maxLen; omega
            intro a' c' w3 ho hg hs
            have HO3 := hid ho
            have HK3 := hid (Keep.grown (HK.out.alloc _) hg (fun j hj => .inr (HV.out j hj)))
            have HV3 := hid (show ∀ j, (Value.slice a' ((bktTo s n k).length + 1) c').ownBlock = some j → w.heap.size ≤ j from fun j hj => by
              rcases hs j hj with h | h
              · exact HV.out j h
              · have := HK.out.size; simp at h; omega)
            clear ho hg hs
            go_wp2
            go_roundw
            case rel =>
              refine ⟨k + 1, _, by omega, by go_num, rfl, ?_, HK3.out, HV3.out⟩
              rw [hM.out, nums_snoc, List.length_append]
              exact HO3.out
            case measure => simp [intOf]; omega
          | false =>
            have hM := hid (HM.out.trans (if_neg (by rw [hb]; decide)))
            have hh : hasB s n k j = false := by rw [HEE.out]; exact hb
            rw [hh]
            clear hb hh HM HEE HE
            go_wp2
            go_roundw
            case rel => exact ⟨k + 1, _, by omega, by go_num, rfl, by rw [hM.out]; exact HO.out, HK.out, HV.out⟩
            case measure => simp [intOf]; omega
    · obtain rfl : k = n := by omega
      go_wp2
      go_ret2
      exact ⟨_, rfl, row_rd HO.out, HK.out, HV.out⟩

end
end Go.Proofs.Ytfpobagkananeaa
