/- LatchTries and LatchExamples: the walks. -/
import Derived.Test.YtckopbjejjeknaaLatch
import Derived.Test.YtckopbjejjeknaaMemNew
import Derived.Test.YtckopbjejjeknaaNil
namespace Go.Proofs.Ytckopbjejjeknaa
open Go.RowKit Go.Lf

theorem own_stepL {w wr w1 : World} {F F1 : Nat → Prop} {lb : Nat} (h : Own w F wr) (hlb : w.heap.size ≤ lb) (k1 : Keep (fun k => F k ∨ k = lb) wr w1) (f1 : Foot wr F F1) : Own w F1 w1 :=
  ⟨h.1.trans k1 (fun j hj hF => by
    rcases hF with hF | hF
    · rcases h.2 j hF with h' | h'
      · exact h'
      · exact absurd hj (by omega)
    · exact absurd hj (by omega)), h.2.trans h.1 f1⟩

def nfails (word t : Int) (j : Nat) : List Acc := List.replicate j ⟨t, 0, 4, word, word, false⟩
theorem nfails_succ (word t : Int) (j : Nat) : nfails word t j ++ [⟨t, 0, 4, word, word, false⟩] = nfails word t (j + 1) := by simp [nfails, List.replicate_succ']

set_option maxRecDepth 100000 in
set_option maxHeartbeats 8000000 in
theorem walk_tries (w : World) (word : Int) (_bw : (Lit.int .u64 word).wf = true) (t : Int) (_bt : (Lit.int .i64 t).wf = true) (tries : Int) (_br : (Lit.int .i64 tries).wf = true) :
    Calls Try.prog 4 #[.int .u64 word, .int .i64 t, .int .i64 tries] w fun e w' => e = .returned (.bool true) ∧ Keep Nil w w' := by
  go_enter Try.func4, Try.ntmps4
  go_wp2_with fail
  refine (new_ok _ [word] _ (rd_new _ _ _ 1 1 _ ⟨rfl, rfl⟩) (by simp) (by simp)).mono ?_
  rintro e w1 ⟨mb, F, rfl, hm, k1, f1⟩
  have HM := hid hm
  have HO := hid (Own.fresh (Keep.alloc (Keep.refl _ _) _) k1 f1)
  clear hm k1 f1
  by_cases he : lckErr t 0 tries 1 = 0
  · obtain ⟨⟨t0, t1, r0, r1⟩, -, -⟩ := lckErr_zero he
    have d1 : decide (t < 0) = false := decide_eq_false (by omega)
    have d2 : decide (64 ≤ t) = false := decide_eq_false (by omega)
    have d3 : decide (tries < 0) = false := decide_eq_false (by omega)
    have d4 : decide (255 < tries) = false := decide_eq_false (by omega)
    have HE := hid he
    clear he
    go_wp2_with fail
    refine (lnew_ok HM.out t 0 tries HE.out).mono ?_
    rintro e w2 ⟨rfl, hl, hk, hz⟩
    have HL := hid hl
    have HM2 := hid (HM.out.keep hk (fun _ _ h => h))
    have HO2 := hid (HO.out.quiet hk)
    have HNL := hid (show ¬ F w1.heap.size from fun h => by have := HM.out.lt _ h; omega)
    have HLB := hid (show w.heap.size ≤ w1.heap.size from HO.out.1.size)
    clear hl hk hz HM HO
    generalize w1.heap.size = lb at *
    go_wp2
    go_loopw [10] (fun i wr => ∃ (j : Nat) (G : Nat → Prop), j ≤ 260 ∧ i = .int .i64 ((j : Int) + 1) ∧ MemAt wr mb G [word] (nfails word t j) ∧ LockAt wr lb mb ⟨j, tries, t, 0, true, 0⟩ ∧ ¬ G lb ∧ Own w G wr ∧ (∀ n : Nat, 1 ≤ n → n ≤ j → (n : Int) ≠ tries) ∧ Hid (word = 0 → j = 0)) (fun i _ => 300 - (intOf i).toNat)
    case atStart => exact ⟨0, F, by omega, rfl, HM2.out, HL.out, HNL.out, HO2.out, fun n h1 h2 => by omega, hid (fun _ => rfl)⟩
    case round =>
      obtain ⟨j, G, hj, rfl, hm, hl, hn, ho, hne, HW0⟩ := hrel
      have M := hid hm
      have L := hid hl
      have NG := hid hn
      have O := hid ho
      have NE := hid hne
      clear hm hl hn ho hne HM2 HL HO2 HNL
      by_cases hlt : j < 260
      · by_cases hw0 : word = 0
        · have d5 : (word == 0) = true := beq_iff_eq.2 hw0
          by_cases hj0 : j = 0
          · subst hj0
            have HW := hid hw0
            clear hw0
            go_wp2_with fail
            refine (lstep_yes M.out _ L.out rfl NG.out t0 t1 (by simp) (by simp [HW.out]) (by simp [nfails])).mono ?_
            rintro e w3 ⟨rfl, G', hm, hl, hn, hk, hf⟩
            have HO3 := hid (own_stepL O.out HLB.out hk hf)
            clear hm hl hn hk hf
            go_wp2
            go_ret
            exact ⟨rfl, HO3.out.1⟩
          · exact absurd (HW0.out hw0) hj0
        · have d5 : (word == 0) = false := beq_eq_false_iff_ne.2 hw0
          have HW := hid hw0
          have j0 : (0 : Int) ≤ (j : Int) := by omega
          clear hw0
          go_wp2_with fail
          refine (lstep_no M.out _ L.out rfl NG.out t0 t1 (by simp) word (by simp) HW.out (by simp) (by simp; omega) (by simp [nfails]; omega)).mono ?_
          simp only
          rintro e w3 ⟨rfl, G', hm, hl, hn, hk, hf⟩
          rw [nfails_succ] at hm
          have HO3 := hid (own_stepL O.out HLB.out hk hf)
          have HM3 := hid hm
          have HN3 := hid hn
          by_cases hft : (j : Int) + 1 = tries
          · have hd : (((j : Int) + 1) == tries) = true := beq_iff_eq.2 hft
            have hl' : LockAt w3 lb mb ⟨j + 1, tries, t, 0, false, 11⟩ := by
              have : LS.step ⟨j, tries, t, 0, true, 0⟩ word = ⟨j + 1, tries, t, 0, false, 11⟩ := by unfold LS.step; rw [if_neg HW.out, if_pos hft]
              rw [this] at hl; exact hl
            have HL3 := hid hl'
            have hlen : (nfails word t (j + 1)).length = j + 1 := by simp [nfails]
            have HFT := hid hft
            clear hm hl hn hk hf hl' hft
            go_wp2_with fail
            refine (lres_any _ HL3.out).mono ?_
            rintro e w4 ⟨n4, rfl, rfl⟩
            go_wp2_with fail
            refine (len_ok (HM3.out.keep ((Keep.refl Nil w3).drewN n4) (fun _ _ h => h))).mono ?_
            rw [hlen]
            rintro e w5 ⟨rfl, rfl⟩
            have d6 : (((j + 1 : Nat) : Int) == tries) = true := beq_iff_eq.2 (by have := HFT.out; omega)
            go_wp2
            go_ret
            exact ⟨rfl, HO3.out.1.drewN _⟩
          · have hd : (((j : Int) + 1) == tries) = false := beq_eq_false_iff_ne.2 hft
            have hl' : LockAt w3 lb mb ⟨(j + 1 : Nat), tries, t, 0, true, 0⟩ := by
              have : LS.step ⟨j, tries, t, 0, true, 0⟩ word = ⟨(j + 1 : Nat), tries, t, 0, true, 0⟩ := by unfold LS.step; rw [if_neg HW.out, if_neg hft]; simp
              rw [this] at hl; exact hl
            have HL3 := hid hl'
            have HFT := hid hft
            clear hm hl hn hk hf hl' hft
            go_wp2
            go_roundw
            case rel => exact ⟨j + 1, G', by omega, by go_num, HM3.out, HL3.out, HN3.out, HO3.out, fun n h1 h2 => by
              rcases Nat.lt_or_ge n (j + 1) with h | h
              · exact NE.out n h1 (by omega)
              · have := HFT.out; omega, hid (fun h => absurd h HW.out)⟩
            case measure => simp [intOf]; omega
      · obtain rfl : j = 260 := by omega
        have htr : tries = 0 := by
          rcases Int.lt_or_le tries 1 with h | h
          · omega
          · exact absurd (show ((tries.toNat : Nat) : Int) = tries by omega) (NE.out tries.toNat (by omega) (by omega))
        have d6 : (tries == 0) = true := beq_iff_eq.2 htr
        clear htr
        go_wp2
        go_ret
        exact ⟨rfl, O.out.1⟩
  · obtain ⟨r, hr⟩ : ∃ r, r = lckErr t 0 tries 1 := ⟨_, rfl⟩
    have hr2 : lckErr t 0 tries 1 = 2 := by
      unfold lckErr at he ⊢
      split
      · rfl
      · rename_i h; rw [if_neg h, if_neg (by omega)] at he; exact absurd rfl he
    have hor : t < 0 ∨ 64 ≤ t ∨ tries < 0 ∨ 255 < tries := by
      unfold lckErr at he
      split at he
      · assumption
      · rw [if_neg (by omega)] at he; exact absurd rfl he
    have hc := lnew_err HM.out t 0 tries he
    rw [show ([word] : List Int).length = 1 from rfl, hr2] at hc
    have HC := hid hc
    clear hc he hr hr2
    go_wp2_with fail
    refine HC.out.mono ?_
    rintro e w2 ⟨rfl, rfl⟩
    by_cases h1 : t < 0
    · have d1 : decide (t < 0) = true := decide_eq_true h1
      clear h1 hor
      go_wp2
      go_ret
      exact ⟨rfl, HO.out.1⟩
    have d1 : decide (t < 0) = false := decide_eq_false h1
    by_cases h2 : 64 ≤ t
    · have d2 : decide (64 ≤ t) = true := decide_eq_true h2
      clear h1 h2 hor
      go_wp2
      go_ret
      exact ⟨rfl, HO.out.1⟩
    have d2 : decide (64 ≤ t) = false := decide_eq_false h2
    by_cases h3 : tries < 0
    · have d3 : decide (tries < 0) = true := decide_eq_true h3
      clear h1 h2 h3 hor
      go_wp2
      go_ret
      exact ⟨rfl, HO.out.1⟩
    have d3 : decide (tries < 0) = false := decide_eq_false h3
    have d4 : decide (255 < tries) = true := decide_eq_true (by omega)
    clear h1 h2 h3 hor
    go_wp2
    go_ret
    exact ⟨rfl, HO.out.1⟩
end Go.Proofs.Ytckopbjejjeknaa
