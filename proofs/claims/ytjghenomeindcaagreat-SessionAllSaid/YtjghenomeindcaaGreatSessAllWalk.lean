/- SessionAll: in a store without sessions as many threads as there are slots get them in order. -/
import Derived.Test.YtjghenomeindcaaGreatInitFacts
set_option linter.unusedVariables false
set_option linter.unusedSimpArgs false
namespace Go.Proofs.YtjghenomeindcaaGreat
open Go.RowKit Go.Lf
attribute [local go_sem] fldc
set_option maxRecDepth 100000 in
set_option maxHeartbeats 8000000 in
theorem walk_sall (w : World) (z : ConfV) (hz : ConfArg w z) (which : Int) (bw : (Lit.int .i64 which).wf = true) :
    Calls Tryz.prog 5 #[z.val, .int .i64 which] w fun e w' => e = .returned (.bool true) ∧ Keep Nil w w' := by
  have HW := hid (i64_wf bw)
  have HZ := hid hz
  obtain ⟨n, hn⟩ : ∃ n, n = z.c.sl := ⟨_, rfl⟩
  have hn1 : 1 ≤ n := by rw [hn]; exact z.sl_rng.1
  have hn5 : n ≤ 5 := by rw [hn]; exact z.sl_rng.2
  have HN := hid hn
  have HC := hid z.ok
  clear hz bw hn
  unfold ConfV.val
  go_enter Tryz.func5, Tryz.ntmps5
  go_wp2_with fail
  refine (small_ok z (HZ.out.keep ((Keep.refl Nil w).alloc _))).mono ?_
  rintro e w1 ⟨a1, cp1, rfl, hr1, hk1, -⟩
  have hb1 := hk1.at (heap_alloc_new w _) (fun h => h)
  have HB1 := hid hb1
  have HR1 := hid hr1
  have HK1 := hid (show Keep Nil w w1 from ((Keep.refl Nil w).alloc _).trans hk1 (fun _ _ h => h))
  clear hb1 hr1 hk1
  go_wp2_with fail
  refine (small_new z HR1.out).mono ?_
  rintro e w2 hnew
  have hkn : Keep Nil w1 w2 := by
    obtain ⟨_, _, _, _, _, h, _⟩ := hnew
    exact h
  have hb2 := hkn.at HB1.out (fun h => h)
  obtain ⟨b, mb, rfl, hs⟩ := SW.new HK1.out hnew
  obtain ⟨q0, q1, q2, q3, q4, q5, q6, q7, q8, q9, q10, q11, q12, q13, q14, q15⟩ := bx16 hb2
  have hz2 : w.heap.size < w2.heap.size := lt_of_block hb2
  have HS := hid hs
  obtain ⟨V1, hV1⟩ : ∃ V : Value, V = cfgV z.c (z.t1 % 7).toNat (z.t2 % 7).toNat (z.t3 % 7).toNat (z.t4 % 7).toNat (z.t5 % 7).toNat (z.t6 % 7).toNat a1 cp1 := ⟨_, rfl⟩
  rw [← hV1]
  clear hV1 hnew hs hb2 HB1 HR1 hkn
  go_wp2_with fail
  refine (small_ok z (HZ.out.keep HS.out.own)).mono ?_
  rintro e w3 ⟨a2, cp2, rfl, -, hk3, -⟩
  have HS3 := hid (HS.out.quiet hk3)
  clear q0 q1 q2 q3 q4 q5 q6 q7 q8 q9 q10 q11 q12 q13 q14 q15 hk3 HS hz2
  go_wp2_with fail
  rw [← HN.out]
  obtain ⟨V2, hV2⟩ : ∃ V : Value, V = cfgV z.c (z.t1 % 7).toNat (z.t2 % 7).toNat (z.t3 % 7).toNat (z.t4 % 7).toNat (z.t5 % 7).toNat (z.t6 % 7).toNat a2 cp2 := ⟨_, rfl⟩
  rw [← hV2]
  clear hV2
  go_loopw [8] (fun i wr => ∃ k : Nat, k ≤ n ∧ i = .int .i64 k ∧ ∃ (ws : List Int) (log : List Acc), SW w wr z.c b mb ws log ∧ SA n ws k ∧ log.length ≤ 64 * k) (fun i _ => n - (intOf i).toNat)
  case atStart => exact ⟨0, Nat.zero_le _, rfl, _, _, HS3.out, by rw [HN.out]; exact SA.init HC.out, by simp⟩
  case round =>
    obtain ⟨k, hk, rfl, ws, log, hs, hsa, hl⟩ := hrel
    have HS4 := hid hs
    have HA := hid hsa
    have HL := hid hl
    clear hs hsa hl HS3
    by_cases hlt : k < n
    · have dk : decide ((k : Int) < (n : Int)) = true := decide_eq_true (by omega)
      have wk : IntKind.i64.wrap (10 + (k : Int)) = 10 + (k : Int) := by rw [IntKind.wrap_i64]; omega
      have wk1 : IntKind.i64.wrap ((k : Int) + 1) = (k : Int) + 1 := by rw [IntKind.wrap_i64]; omega
      have HLT := hid hlt
      clear hlt hk
      go_wp2_with fail
      refine (sw_open HS4.out HC.out (by rw [← HN.out]; exact HA.out.len) (t := 10 + (k : Int)) (by omega) (by have := HLT.out; omega) (by have := HL.out; have := HLT.out; omega)).mono ?_
      rintro e w4 ⟨s, st, err, ws', log', rfl, hs, hsp, hlen⟩
      rw [← HN.out] at hsp
      obtain ⟨rfl, rfl, rfl, ha⟩ := HA.out.next HLT.out hsp rfl (by omega)
      have HS5 := hid hs
      have HA5 := hid ha
      have HLEN := hid hlen
      clear hs ha hlen hsp
      go_wp2
      go_roundw
      case rel => exact ⟨k + 1, by have := HLT.out; omega, by go_num, ws', log', HS5.out, HA5.out, by have := HLEN.out; have := HL.out; omega⟩
      case measure => have := HLT.out; simp [intOf]; omega
    · have hkn : k = n := by omega
      subst hkn
      have dk : decide ((k : Int) < (k : Int)) = false := decide_eq_false (by omega)
      clear hlt hk
      go_wp2_with fail
      refine (sw_open HS4.out HC.out (by rw [← HN.out]; exact HA.out.len) (t := 5) (by omega) (by omega) (by have := HL.out; omega)).mono ?_
      rintro e w4 ⟨s, st, err, ws', log', rfl, hs, hsp, hlen⟩
      rw [← HN.out] at hsp
      obtain ⟨rfl, rfl, rfl, rfl⟩ := HA.out.full hsp
      have HS5 := hid hs
      have HL5 := hid (show log'.length ≤ 64 * k + 64 from by have := HL.out; omega)
      clear hs hsp hlen HS4 HL
      have hm0 : 0 ≤ which % (k : Int) := Int.emod_nonneg _ (by omega)
      have hm1 : which % (k : Int) < (k : Int) := Int.emod_lt_of_pos _ (by omega)
      go_wp2_with fail
      refine (mod_ok which (k : Int) HW.out.1 HW.out.2 (by omega) (by omega) _).mono ?_
      rintro e w5 ⟨rfl, rfl⟩
      obtain ⟨j, hj⟩ : ∃ j : Nat, which % (k : Int) = (j : Int) := ⟨(which % (k : Int)).toNat, by omega⟩
      rw [hj] at hm0 hm1 ⊢
      have hjk : j < k := by omega
      have wj : IntKind.i64.wrap (10 + (j : Int)) = 10 + (j : Int) := by rw [IntKind.wrap_i64]; omega
      have wj1 : IntKind.i64.wrap ((j : Int) + 1) = (j : Int) + 1 := by rw [IntKind.wrap_i64]; omega
      clear hj hm0 hm1
      go_wp2_with fail
      refine (sw_close HS5.out HC.out (t := 10 + (j : Int)) (slot := (j : Int)) (by omega) (by omega) (by omega) (by rw [← HN.out]; omega) (by rw [Int.toNat_natCast, HA.out.lo j hjk]; exact congrArg some (by omega)) (by have := HL5.out; omega)).mono ?_
      rintro e w6 ⟨rfl, hs⟩
      rw [Int.toNat_natCast] at hs
      have HS6 := hid hs
      clear hs HS5
      go_wp2_with fail
      refine (sw_open HS6.out HC.out (by rw [← HN.out, List.length_set]; exact HA.out.len) (t := 5) (by omega) (by omega) (by have := HL5.out; simp; omega)).mono ?_
      rintro e w7 ⟨s, st, err, ws', log', rfl, hs, hsp, hlen⟩
      rw [← HN.out] at hsp
      obtain ⟨rfl, rfl, rfl, h1, h2, h3, h4⟩ := HA.out.again hjk (by omega) (by omega) (by omega) hsp
      have HS7 := hid hs
      obtain ⟨l, hl⟩ : ∃ l, l = (ws'.take k).map ownOf := ⟨_, rfl⟩
      rw [← hl] at h3 h4
      clear hs hsp hlen HS6 HL5
      go_wp2_with fail
      refine (sw_owners HS7.out HC.out (by rw [← HN.out]; exact h1) h2 (l := l) (by rw [← HN.out, hl])).mono ?_
      rintro e w8 ⟨g, rfl, hg, -, hk8⟩
      have HK8 := hid (HS7.out.own.trans hk8 (fun _ _ h => h))
      have cg : w8.cell? ⟨g, j, none⟩ = some (.int .i64 5) := by rw [cell_of hg]; simp [i64s, h4]
      rw [h3]
      have HG := hid hg
      have lj : j < k := hjk
      clear hg hk8 h1 h2 h4 hl HS7
      go_wp2_with fail
      refine (awake_ok).mono ?_
      rintro e w9 ⟨rfl, hk9⟩
      have HK9 := hid (HK8.out.trans hk9 (fun _ _ h => h))
      clear hk9
      go_wp2
      go_ret
      exact ⟨rfl, HK9.out⟩
end Go.Proofs.YtjghenomeindcaaGreat
