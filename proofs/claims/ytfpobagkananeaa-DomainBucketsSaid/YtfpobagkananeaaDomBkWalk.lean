/- DomainBuckets: the walk. -/
import Derived.Test.YtfpobagkananeaaDomBk2
set_option linter.unusedVariables false
set_option linter.unusedSimpArgs false
namespace Go.Lf
open Go.RowKit
/-- Whether a set has a value below k in a bucket. -/
def wantTo (s n k b : Nat) : Bool := (List.range k).any fun v => (v % n == b) && s.testBit v
theorem wantTo_zero (s n b : Nat) : wantTo s n 0 b = false := rfl
theorem wantTo_succ (s n k b : Nat) : wantTo s n (k + 1) b = (wantTo s n k b || ((k % n == b) && s.testBit k)) := by
  unfold wantTo
  rw [List.range_succ, List.any_append]
  simp
theorem wantTo_all (s n b : Nat) : wantTo s n 64 b = inB s n b := rfl
def wl (s n k : Nat) : List Value := (List.range 16).map fun b => .bool (wantTo s n k b)
theorem wl_len (s n k : Nat) : (wl s n k).length = 16 := by simp [wl]
theorem wl_at {s n k b : Nat} (hb : b < 16) : (wl s n k)[b]? = some (.bool (wantTo s n k b)) := by simp [wl, hb]
theorem wl_set {s n k : Nat} (hn : 0 < n) (h16 : n ≤ 16) : (wl s n k).set (k % n) (.bool (wantTo s n k (k % n) || s.testBit k)) = wl s n (k + 1) := by
  have hlt := Nat.mod_lt k hn
  apply List.ext_getElem?
  intro j
  rw [List.getElem?_set]
  by_cases hj : j < 16
  · rw [wl_at hj, wl_at hj, wantTo_succ]
    by_cases e : k % n = j
    · subst e
      rw [if_pos rfl, if_pos (by rw [wl_len]; omega)]
      simp
    · rw [if_neg e]
      rw [beq_eq_false_iff_ne.2 e, Bool.false_and, Bool.or_false]
  · rw [if_neg (by omega), List.getElem?_eq_none (by rw [wl_len]; omega), List.getElem?_eq_none (by rw [wl_len]; omega)]
theorem wl_zero (s n : Nat) : wl s n 0 = List.replicate 16 (.bool false) := by
  apply List.ext_getElem?
  intro j
  by_cases hj : j < 16
  · rw [wl_at hj, wantTo_zero, List.getElem?_replicate, if_pos hj]
  · rw [List.getElem?_eq_none (by rw [wl_len]; omega), List.getElem?_eq_none (by simp; omega)]
/-- Whether two sets have a value in one bucket below k. -/
def comTo (s t n k : Nat) : Bool := (List.range k).any fun b => inB s n b && inB t n b
theorem comTo_succ (s t n k : Nat) : comTo s t n (k + 1) = (comTo s t n k || (inB s n k && inB t n k)) := by
  unfold comTo
  rw [List.range_succ, List.any_append]
  simp
theorem comTo_and {s t n : Nat} (hs : s < 18446744073709551616) (hn : 0 < n) (h : s &&& t ≠ 0) : comTo s t n n = true := by
  have hex : ∃ v, (s &&& t).testBit v = true := by
    refine Classical.byContradiction fun hc => h ?_
    apply Nat.eq_of_testBit_eq
    intro i
    rw [Nat.zero_testBit]
    cases hb : (s &&& t).testBit i with
    | false => rfl
    | true => exact absurd ⟨i, hb⟩ hc
  obtain ⟨v, hv⟩ := hex
  rw [Nat.testBit_and, Bool.and_eq_true] at hv
  have hv64 : v < 64 := by
    rcases Nat.lt_or_ge v 64 with h' | h'
    · exact h'
    · rw [Nat.testBit_lt_two_pow (Nat.lt_of_lt_of_le hs (Nat.pow_le_pow_right (n := 2) (by decide) h'))] at hv
      cases hv.1
  unfold comTo
  rw [List.any_eq_true]
  exact ⟨v % n, List.mem_range.2 (Nat.mod_lt _ hn), by rw [Bool.and_eq_true]; exact ⟨inB_iff.2 ⟨v, hv64, rfl, hv.1⟩, inB_iff.2 ⟨v, hv64, rfl, hv.2⟩⟩⟩
theorem bkts_at {s n k : Nat} (hk : k < n) (hb : inB s n k = true) : (bkts s n)[(bktTo s n k).length]? = some k ∧ (bktTo s n k).length < (bkts s n).length := by
  have h : (bkts s n)[(bktTo s n k).length]? = some k := by
    unfold bkts bktTo
    obtain ⟨d, rfl⟩ : ∃ d, n = k + 1 + d := ⟨n - (k + 1), by omega⟩
    rw [List.range_add, List.filter_append, List.range_succ, List.filter_append, List.append_assoc, List.getElem?_append_right (Nat.le_refl _), Nat.sub_self]
    simp [hb]
  exact ⟨h, (List.getElem?_eq_some_iff.1 h).1⟩
theorem and_one_bit (s k : Nat) (hs : s < 18446744073709551616) : (Go.bits .and .u64 ((s : Int) / 2 ^ k) 1 == 1) = s.testBit k := by
  have e1 : (s : Int) / 2 ^ k = ((s / 2 ^ k : Nat) : Int) := by simp
  have hle : s / 2 ^ k ≤ s := Nat.div_le_self _ _
  have h1 : Go.bits .and .u64 ((s / 2 ^ k : Nat) : Int) ((1 : Nat) : Int) = ((s / 2 ^ k &&& 1 : Nat) : Int) := bits_and_u64 (by omega) (by decide)
  rw [e1, show (1 : Int) = ((1 : Nat) : Int) from rfl, h1, shift_bit, Nat.and_one_is_mod, Bool.eq_iff_iff, beq_iff_eq, decide_eq_true_eq]
  omega
end Go.Lf
namespace Go.Proofs.Ytfpobagkananeaa
open Go.RowKit Go.Lf
set_option maxRecDepth 100000 in
set_option maxHeartbeats 8000000 in
theorem dbuckets_ok (w : World) (s t n : Nat) (hs : s < 18446744073709551616) (ht : t < 18446744073709551616) (h1 : 1 ≤ n) (h2 : n ≤ 16) :
    Calls Try.prog 9 #[.int .u64 s, .int .u64 t, .int .i64 n] w fun e w' => e = .returned (.bool true) ∧ Keep Nil w w' := by
  have HA := hid (fun (w : World) => buckets_ok s n hs h1 h2 w)
  have HB := hid (fun (w : World) => buckets_ok t n ht h1 h2 w)
  have d1 : decide ((n : Int) < 1) = false := decide_eq_false (by omega)
  have d2 : decide (16 < (n : Int)) = false := decide_eq_false (by omega)
  go_enter Try.func9, Try.ntmps9
  go_wp2_with fail
  refine (HA.out _).mono ?_
  rintro e w1 ⟨va, rfl, ra, k1, oa⟩
  go_wp2_with fail
  refine (HB.out _).mono ?_
  rintro e w2 ⟨vb, rfl, rb, k2, ob⟩
  have RA := hid (rd_keep ra k2 (fun _ _ h => h))
  have RB := hid rb
  have K2 := hid (k1.trans k2 (fun _ _ h => h))
  clear ra rb k1 k2 oa ob HA HB
  obtain ⟨aa, ac, rfl, -, -⟩ := id RA.out
  obtain ⟨ba, bc, rfl, -, -⟩ := id RB.out
  go_wp2
  obtain ⟨W, hW⟩ : ∃ W, W = (w2.alloc (.cells #[.bool false, .bool false, .bool false, .bool false, .bool false, .bool false, .bool false, .bool false, .bool false, .bool false, .bool false, .bool false, .bool false, .bool false, .bool false, .bool false] 51)).alloc (.cells #[.bool false, .bool false, .bool false, .bool false, .bool false, .bool false, .bool false, .bool false, .bool false, .bool false, .bool false, .bool false, .bool false, .bool false, .bool false, .bool false] 51) := ⟨_, rfl⟩
  rw [← hW]
  have kW : Keep Nil w2 W := by rw [hW]; exact ((Keep.refl Nil w2).alloc _).alloc _
  have hC0 : W.heap[w2.heap.size]? = some (.cells (wl s n 0).toArray 51 (0, 0)) ∧ W.heap[w2.heap.size + 1]? = some (.cells (wl t n 0).toArray 51 (0, 0)) := by
    rw [wl_zero, wl_zero, hW]
    refine ⟨alloc_old (heap_alloc_new w2 _) _, ?_⟩
    have := heap_alloc_new (w2.alloc (.cells #[.bool false, .bool false, .bool false, .bool false, .bool false, .bool false, .bool false, .bool false, .bool false, .bool false, .bool false, .bool false, .bool false, .bool false, .bool false, .bool false] 51)) (.cells #[.bool false, .bool false, .bool false, .bool false, .bool false, .bool false, .bool false, .bool false, .bool false, .bool false, .bool false, .bool false, .bool false, .bool false, .bool false, .bool false] 51)
    rw [World.size_alloc] at this
    exact this
  have KW0 := hid kW
  have HC0 := hid hC0
  clear kW hC0 hW
  go_loopw [13] (fun i wr => ∃ k : Nat, k ≤ 64 ∧ i = .int .i64 k ∧ Keep Nil w2 wr ∧ Hid (wr.heap[w2.heap.size]? = some (.cells (wl s n k).toArray 51 (0, 0)) ∧ wr.heap[w2.heap.size + 1]? = some (.cells (wl t n k).toArray 51 (0, 0)))) (fun i _ => 64 - (intOf i).toNat)
  case atStart => exact ⟨0, by omega, rfl, KW0.out, HC0⟩
  case round =>
    obtain ⟨k, hk, rfl, hkw, HC⟩ := hrel
    have KW := hid hkw
    clear hkw KW0 HC0
    by_cases hlt : k < 64
    · have hbk := fun (w : World) => @bucket_ok w k n hlt h1 h2
      have hs1 := wl_set (s := s) (n := n) (k := k) (by omega) h2
      have hs2 := wl_set (s := t) (n := n) (k := k) (by omega) h2
      obtain ⟨b, hb⟩ : ∃ b, b = k % n := ⟨_, rfl⟩
      rw [← hb] at hs1 hs2
      simp only [← hb] at hbk
      have HBK := hid hbk
      have hbi : (k : Int) % (n : Int) = (b : Int) := by omega
      have hb16 : b < 16 := by have := Nat.mod_lt k (show 0 < n by omega); omega
      have c1 : wr.cell? ⟨w2.heap.size, b, none⟩ = some (.bool (wantTo s n k b)) := by rw [cell_of HC.out.1]; simpa using wl_at hb16
      have c2 : wr.cell? ⟨w2.heap.size + 1, b, none⟩ = some (.bool (wantTo t n k b)) := by rw [cell_of HC.out.2]; simpa using wl_at hb16
      have dz : ¬ (n = 0) := by omega
      have f1 : wr.frozen? ⟨w2.heap.size, b, none⟩ = false := free_of HC.out.1 b
      have f2 : wr.frozen? ⟨w2.heap.size + 1, b, none⟩ = false := free_of HC.out.2 b
      have t1 := and_one_bit s k hs
      have t2 := and_one_bit t k ht
      generalize s.testBit k = tb1 at t1 hs1
      generalize t.testBit k = tb2 at t2 hs2
      generalize wantTo s n k b = wa at c1 hs1
      generalize wantTo t n k b = wb at c2 hs2
      have fin : ∀ x y : Bool, x = (wa || tb1) → y = (wb || tb2) → Keep Nil w2 ((wr.setCell ⟨w2.heap.size, b, none⟩ (.bool x)).setCell ⟨w2.heap.size + 1, b, none⟩ (.bool y)) ∧
          Hid (((wr.setCell ⟨w2.heap.size, b, none⟩ (.bool x)).setCell ⟨w2.heap.size + 1, b, none⟩ (.bool y)).heap[w2.heap.size]? = some (.cells (wl s n (k + 1)).toArray 51 (0, 0)) ∧ ((wr.setCell ⟨w2.heap.size, b, none⟩ (.bool x)).setCell ⟨w2.heap.size + 1, b, none⟩ (.bool y)).heap[w2.heap.size + 1]? = some (.cells (wl t n (k + 1)).toArray 51 (0, 0))) := by
        rintro x y rfl rfl
        refine ⟨Keep.setCell (Keep.setCell KW.out (.inr (by show _ ≤ w2.heap.size; omega)) _) (.inr (by show _ ≤ w2.heap.size + 1; omega)) _, hid ⟨?_, ?_⟩⟩
        · rw [← hs1]
          have := set_other (set_same (i := b) HC.out.1 (.bool (wa || tb1))) (p := ⟨w2.heap.size + 1, b, none⟩) (by show w2.heap.size ≠ w2.heap.size + 1; omega) (.bool (wb || tb2))
          simpa using this
        · rw [← hs2]
          have := set_same (i := b) (set_other HC.out.2 (p := ⟨w2.heap.size, b, none⟩) (by show w2.heap.size + 1 ≠ w2.heap.size; omega) (.bool (wa || tb1))) (.bool (wb || tb2))
          simpa using this
      have FIN := hid fin
      clear hbk hb hs1 hs2 fin
      cases wa <;> cases wb
      all_goals
        go_wp2_with fail
        refine (HBK.out _).mono ?_
        rintro e w' ⟨rfl, rfl⟩
        go_wp2
        go_roundw
        case rel => exact ⟨k + 1, by omega, by go_num, FIN.out _ _ (by simp) (by simp)⟩
        case measure => simp [intOf]; omega
    · obtain rfl : k = 64 := by omega
      have CA := hid (fun (b : Nat) (hb : b < 16) => (show wr.cell? ⟨w2.heap.size, b, none⟩ = some (.bool (inB s n b)) by rw [cell_of HC.out.1]; simpa [wantTo_all] using wl_at (s := s) (n := n) (k := 64) hb))
      have CB := hid (fun (b : Nat) (hb : b < 16) => (show wr.cell? ⟨w2.heap.size + 1, b, none⟩ = some (.bool (inB t n b)) by rw [cell_of HC.out.2]; simpa [wantTo_all] using wl_at (s := t) (n := n) (k := 64) hb))
      have RA2 := hid (rd_keep RA.out KW.out (fun _ _ h => h))
      have KF := hid (K2.out.trans KW.out (fun _ _ h => h))
      clear HC RA RB K2 KW hk hlt
      obtain ⟨wo, rfl⟩ : ∃ wo : World, wo = wr := ⟨_, rfl⟩
      go_wp2
      go_loop [16, 17, 18] (fun c m i => ∃ k : Nat, k ≤ n ∧ i = .int .i64 k ∧ c = .int .i64 (bktTo s n k).length ∧ m = .bool (comTo s t n k)) (fun _ _ i => n - (intOf i).toNat)
      case atStart => exact ⟨0, by omega, rfl, rfl, rfl⟩
      case round =>
        obtain ⟨k, hk, rfl, rfl, rfl⟩ := hrel
        by_cases hlt : k < n
        · have c1 := CA.out k (by omega)
          have c2 := CB.out k (by omega)
          have hc := hid (comTo_succ s t n k)
          have hsx := hid (bktTo_succ s n k)
          have hat := hid (fun h => @bkts_at s n k hlt h)
          have hbl := bktTo_len s n k
          obtain ⟨L, hL⟩ : ∃ L, L = (bktTo s n k).length := ⟨_, rfl⟩
          rw [← hL] at hat hbl ⊢
          have HL := hid hL
          generalize comTo s t n k = cm at hc ⊢
          generalize hib : inB t n k = ib at c2 hc
          clear hL hib
          cases hia : inB s n k with
          | true =>
            obtain ⟨a1, a2⟩ := hat.out hia
            obtain ⟨qb, qo, qc, hqe, hq⟩ := Rd.cell RA2.out (by omega)
            simp only [Value.slice.injEq] at hqe
            obtain ⟨rfl, -, rfl⟩ := hqe
            have hcell : wo.cell? ⟨qb, qo + L, none⟩ = some (.int .i64 k) := hq L _ (nums_at a1)
            rw [hia] at c1 hc
            have hnx := hid (show (bktTo s n (k + 1)).length = L + 1 by rw [hsx.out, if_pos hia, List.length_append, ← HL.out]; rfl)
            have dl : decide (((bkts s n).length : Int) ≤ (L : Int)) = false := decide_eq_false (by omega)
            have dl' : decide ((bkts s n).length ≤ L) = false := decide_eq_false (by omega)
            have l0 : (0 : Int) ≤ (L : Int) := by omega
            have l1 : (L : Int) < ((bkts s n).length : Int) := by omega
            clear hq a1 hia hat hsx HL
            cases cm <;> cases ib
            all_goals
              go_wp2
              go_round
              case rel => exact ⟨k + 1, by omega, by go_num, by rw [hnx.out]; go_num, by rw [hc.out]; rfl⟩
              case measure => simp [intOf]; omega
          | false =>
            rw [hia] at c1 hc
            have hnx := hid (show (bktTo s n (k + 1)).length = L by rw [hsx.out, if_neg (by rw [hia]; decide), ← HL.out])
            clear hia hat hsx HL
            cases cm <;> cases ib
            all_goals
              go_wp2
              go_round
              case rel => exact ⟨k + 1, by omega, by go_num, by rw [hnx.out], by rw [hc.out]; rfl⟩
              case measure => simp [intOf]; omega
        · obtain rfl : k = n := by omega
          have hcm := hid (fun h => @comTo_and s t k hs (by omega) h)
          have hbl : (bktTo s k k).length = (bkts s k).length := rfl
          rw [hbl]
          have hand := bits_and_u64 hs ht
          have dq : (((bkts s k).length : Int) == ((bkts s k).length : Int)) = true := by simp
          by_cases h0 : s &&& t = 0
          · have dz : (Go.bits .and .u64 (s : Int) (t : Int) == 0) = true := by rw [hand, h0]; rfl
            generalize comTo s t k k = cm
            clear hcm hand h0 hbl
            go_wp2
            go_ret
            exact ⟨by simp, KF.out⟩
          · have dz : (Go.bits .and .u64 (s : Int) (t : Int) == 0) = false := by rw [hand]; exact beq_eq_false_iff_ne.2 (by omega)
            rw [hcm.out h0]
            clear hcm hand h0 hbl
            go_wp2
            go_ret
            exact ⟨by simp, KF.out⟩
set_option maxHeartbeats 4000000 in
theorem walk_dbuckets (w : World) (s : Int) (bs : (Lit.int .u64 s).wf = true) (t : Int) (bt : (Lit.int .u64 t).wf = true) (n : Int) (_bn : (Lit.int .i64 n).wf = true) :
    Calls Try.prog 9 #[.int .u64 s, .int .u64 t, .int .i64 n] w fun e w' => e = .returned (.bool true) ∧ Keep Nil w w' := by
  obtain ⟨s', rfl, hs⟩ : ∃ n : Nat, s = n ∧ n < 18446744073709551616 := by
    simp [Lit.wf, IntKind.min, IntKind.max, IntKind.signed, IntKind.bits] at bs
    exact ⟨s.toNat, by omega, by omega⟩
  obtain ⟨t', rfl, ht⟩ : ∃ n : Nat, t = n ∧ n < 18446744073709551616 := by
    simp [Lit.wf, IntKind.min, IntKind.max, IntKind.signed, IntKind.bits] at bt
    exact ⟨t.toNat, by omega, by omega⟩
  by_cases hn : n < 1 ∨ 16 < n
  · have HA := hid (fun (w : World) => buckets_bad s' n hn w)
    have HB := hid (fun (w : World) => buckets_bad t' n hn w)
    by_cases h1 : n < 1
    · have d1 : decide (n < 1) = true := decide_eq_true h1
      clear hn h1
      go_enter Try.func9, Try.ntmps9
      go_wp2_with fail
      refine (HA.out _).mono ?_
      rintro e w1 ⟨rfl, k1⟩
      go_wp2_with fail
      refine (HB.out _).mono ?_
      rintro e w2 ⟨rfl, k2⟩
      have K := hid (k1.trans k2 (fun _ _ h => h))
      clear k1 k2
      go_wp2
      go_ret
      exact ⟨rfl, K.out⟩
    · have d1 : decide (n < 1) = false := decide_eq_false h1
      have d2 : decide (16 < n) = true := decide_eq_true (by omega)
      clear hn h1
      go_enter Try.func9, Try.ntmps9
      go_wp2_with fail
      refine (HA.out _).mono ?_
      rintro e w1 ⟨rfl, k1⟩
      go_wp2_with fail
      refine (HB.out _).mono ?_
      rintro e w2 ⟨rfl, k2⟩
      have K := hid (k1.trans k2 (fun _ _ h => h))
      clear k1 k2
      go_wp2
      go_ret
      exact ⟨rfl, K.out⟩
  · obtain ⟨n', rfl⟩ := Int.eq_ofNat_of_zero_le (show 0 ≤ n by omega)
    exact dbuckets_ok w s' t' n' hs ht (by omega) (by omega)
end Go.Proofs.Ytfpobagkananeaa
