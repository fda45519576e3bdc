/- DomainSets: the walk. -/
import Derived.Test.YtfpobagkananeaaDomBk2
import Derived.Test.YtfpobagkananeaaDomLaws
set_option linter.unusedVariables false
set_option linter.unusedSimpArgs false
namespace Go.Proofs.Ytfpobagkananeaa
open Go.RowKit Go.Lf
theorem set_any {a : Option Addr} {c : Nat} (l : List Int) (w : World) (hrd : Rd w 1 (.slice a l.length c) l.length (i64s l)) (hm : l.length ≤ maxLen) :
    ∃ x e0 : Int, (Calls Try.prog 13 #[.slice a l.length c] w fun e w' => e = .returned (.tuple #[.int .u64 x, .int .i64 e0]) ∧ w = w') ∧ (Calls Try.prog 30 #[.slice a l.length c] w fun e w' => e = .returned (.tuple #[.int .u64 x, .int .i64 e0]) ∧ Keep Nil w w') := by
  by_cases hr : InR l
  · exact ⟨_, _, set_ok l hrd hm hr, rset_ok l hrd hm hr⟩
  · exact ⟨_, _, set_bad l hrd hm hr, rset_bad l hrd hm hr⟩
theorem bucket_any (v n : Int) :
    ∃ x e0 : Int, ∀ w : World, (Calls Try.prog 29 #[.int .i64 v, .int .i64 n] w fun e w' => e = .returned (.tuple #[.int .i64 x, .int .i64 e0]) ∧ w = w') ∧ (Calls Try.prog 31 #[.int .i64 v, .int .i64 n] w fun e w' => e = .returned (.tuple #[.int .i64 x, .int .i64 e0]) ∧ w = w') := by
  by_cases he : bktErr v n = 0
  · have h1 : 1 ≤ n ∧ n ≤ 16 ∧ 0 ≤ v ∧ v < 64 := by
      unfold bktErr at he
      split at he
      · omega
      · split at he <;> omega
    obtain ⟨n', rfl⟩ := Int.eq_ofNat_of_zero_le (show 0 ≤ n by omega)
    obtain ⟨v', rfl⟩ := Int.eq_ofNat_of_zero_le (show 0 ≤ v by omega)
    exact ⟨_, _, fun w => ⟨bucket_ok v' n' (by omega) (by omega) (by omega), rbucket_ok v' n' (by omega) (by omega) (by omega)⟩⟩
  · exact ⟨_, _, fun w => ⟨bucket_err v n he, rbucket_err v n he⟩⟩
/-- Buckets of both: lists of the same numbers, and the same error. -/
def BotTo (w : World) (l : List Nat) (e0 : Int) (e : Ending) (w' : World) : Prop := ∃ v, e = .returned (.tuple #[v, .int .i64 e0]) ∧ Rd w' 1 v l.length (nums l) ∧ Keep Nil w w'
theorem buckets_any (s : Nat) (hs : s < 18446744073709551616) (n : Int) :
    ∃ (l : List Nat) (e0 : Int), l.length ≤ 64 ∧ ∀ w : World, Calls Try.prog 28 #[.int .u64 s, .int .i64 n] w (BotTo w l e0) ∧ Calls Try.prog 32 #[.int .u64 s, .int .i64 n] w (BotTo w l e0) := by
  by_cases hn : n < 1 ∨ 16 < n
  · refine ⟨[], 2, by simp, fun w => ⟨(buckets_bad s n hn w).mono ?_, (rbuckets_bad s n hn).mono ?_⟩⟩
    · rintro e w' ⟨rfl, hk⟩
      exact ⟨_, rfl, ⟨none, 0, rfl, rfl, .inl ⟨rfl, rfl, rfl⟩⟩, hk⟩
    · rintro e w' ⟨rfl, rfl⟩
      exact ⟨_, rfl, ⟨none, 0, rfl, rfl, .inl ⟨rfl, rfl, rfl⟩⟩, Keep.refl _ _⟩
  · obtain ⟨n', rfl⟩ := Int.eq_ofNat_of_zero_le (show 0 ≤ n by omega)
    refine ⟨bkts s n', 0, by have := bktTo_len s n' n'; unfold bkts; omega, fun w => ⟨(buckets_ok s n' hs (by omega) (by omega) w).mono ?_, (rbuckets_ok s n' hs (by omega) (by omega)).mono ?_⟩⟩
    · rintro e w' ⟨v, rfl, h1, h2, -⟩; exact ⟨v, rfl, h1, h2⟩
    · rintro e w' ⟨v, rfl, h1, h2, -⟩; exact ⟨v, rfl, h1, h2⟩
theorem rd_nums {w : World} {v : Value} {l : List Nat} (h : Rd w 1 v l.length (nums l)) : Rd w 1 v (ints l).length (i64s (ints l)) := by
  rw [show (ints l).length = l.length by simp [ints]]; exact h
set_option maxRecDepth 100000 in
set_option maxHeartbeats 8000000 in
theorem walk_sets (w : World) (v : Value) (zs : List Int) (hrd : Rd w 1 v zs.length (zs.map (Value.int .i64))) (_bz : ∀ n ∈ zs, (Lit.int .i64 n).wf = true) (hm : zs.length ≤ maxLen) (s : Int) (bs : (Lit.int .u64 s).wf = true) (V B : Int) :
    Calls Try.prog 10 #[v, .int .u64 s, .agg #[.int .i64 V, .int .i64 B]] w fun e w' => e = .returned (.bool true) ∧ Keep Nil w w' := by
  obtain ⟨va, vc, rfl, -, -⟩ := id hrd
  have HD := hid hrd
  have kX : Keep Nil w (w.alloc (.cells #[.int .i64 V, .int .i64 B] 55)) := (Keep.refl Nil w).alloc _
  have hx := heap_alloc_new w (.cells #[.int .i64 V, .int .i64 B] 55)
  have KX := hid kX
  have HX := hid hx
  have HML := hid hm
  unfold maxLen at hm
  clear hrd kX hx
  by_cases h3 : 300 < zs.length
  · have d1 : decide (300 < (zs.length : Int)) = true := decide_eq_true (by omega)
    have d1' : decide (300 < zs.length) = true := decide_eq_true (by omega)
    clear h3
    go_enter Try.func10, Try.ntmps10
    go_wp2_with fail
    refine (known_any _).mono ?_
    rintro e w1 ⟨rfl, hk⟩
    have HK := hid (KX.out.trans hk (fun _ _ h => h))
    clear hk
    go_wp2
    go_ret
    exact ⟨rfl, HK.out⟩
  have d1 : decide (300 < (zs.length : Int)) = false := decide_eq_false (by omega)
  have d1' : decide (300 < zs.length) = false := decide_eq_false (by omega)
  obtain ⟨n, rfl, hn⟩ : ∃ n : Nat, s = n ∧ n < 18446744073709551616 := by
    simp [Lit.wf, IntKind.min, IntKind.max, IntKind.signed, IntKind.bits] at bs
    exact ⟨s.toNat, by omega, by omega⟩
  obtain ⟨x1, e1, hs1, hs2⟩ := set_any zs _ (rd_keep HD.out KX.out (fun _ _ h => h)) HML.out
  obtain ⟨x2, e2, hb⟩ := bucket_any V B
  obtain ⟨l, e3, hl, hk⟩ := buckets_any n hn B
  have HS1 := hid hs1
  have HS2 := hid hs2
  have HB := hid hb
  have HK := hid hk
  have HM1 := hid (fun (w : World) => members_any n hn w)
  have HM2 := hid (fun (w : World) => @rmembers_any w n hn)
  have hml := mems_length n 64
  have t1 : (x1 == x1) = true := by simp
  have t2 : (e1 == e1) = true := by simp
  have t3 : (x2 == x2) = true := by simp
  have t4 : (e2 == e2) = true := by simp
  have t5 : (e3 == e3) = true := by simp
  clear hs1 hs2 hb hk bs h3
  go_enter Try.func10, Try.ntmps10
  go_wp2_with fail
  refine HS1.out.mono ?_
  rintro e w1 ⟨rfl, rfl⟩
  go_wp2_with fail
  refine HS2.out.mono ?_
  rintro e w1 ⟨rfl, k1⟩
  have hx1 := k1.at HX.out (fun h => h)
  have c0 : w1.cell? ⟨w.heap.size, 0, none⟩ = some (.int .i64 V) := by rw [cell_of hx1]; rfl
  have c1 : w1.cell? ⟨w.heap.size, 1, none⟩ = some (.int .i64 B) := by rw [cell_of hx1]; rfl
  have HX1 := hid hx1
  have K1 := hid (KX.out.trans k1 (fun _ _ h => h))
  clear k1 hx1 HX KX HS1 HS2
  go_wp2_with fail
  refine (HB.out _).1.mono ?_
  rintro e w2 ⟨rfl, rfl⟩
  go_wp2_with fail
  refine (HB.out _).2.mono ?_
  rintro e w2 ⟨rfl, rfl⟩
  go_wp2_with fail
  refine (HK.out _).1.mono ?_
  rintro e w2 ⟨v2, rfl, r2, k2⟩
  have hx2 := k2.at HX1.out (fun h => h)
  have c1' : w2.cell? ⟨w.heap.size, 1, none⟩ = some (.int .i64 B) := by rw [cell_of hx2]; rfl
  have R2 := hid r2
  have K2 := hid (K1.out.trans k2 (fun _ _ h => h))
  clear k2 hx2 r2 c0 c1 K1
  go_wp2_with fail
  refine (HK.out _).2.mono ?_
  rintro e w3 ⟨v3, rfl, r3, k3⟩
  have R2' := hid (rd_nums (rd_keep R2.out k3 (fun _ _ h => h)))
  have R3 := hid (rd_nums r3)
  have K3 := hid (K2.out.trans k3 (fun _ _ h => h))
  clear k3 r3 c1' K2 R2
  go_wp2_with fail
  refine (same_yes _ _ (ints l) _ R2'.out R3.out (by simp [ints]; omega)).mono ?_
  rintro e w4 ⟨rfl, k4⟩
  have K4 := hid (K3.out.trans k4 (fun _ _ h => h))
  clear k4 K3 R2' R3
  go_wp2_with fail
  refine (HM1.out _).mono ?_
  rintro e w5 ⟨v5, rfl, r5, k5⟩
  have R5 := hid r5
  have K5 := hid (K4.out.trans k5 (fun _ _ h => h))
  clear k5 r5 K4
  go_wp2_with fail
  refine (HM2.out _).mono ?_
  rintro e w6 ⟨v6, rfl, r6, k6⟩
  have R5' := hid (rd_nums (rd_keep R5.out k6 (fun _ _ h => h)))
  have R6 := hid (rd_nums r6)
  have K6 := hid (K5.out.trans k6 (fun _ _ h => h))
  clear k6 r6 K5 R5
  go_wp2_with fail
  refine (same_yes _ _ (ints (mems n 64)) _ R5'.out R6.out (by simp [ints]; omega)).mono ?_
  rintro e w7 ⟨rfl, k7⟩
  have K7 := hid (K6.out.trans k7 (fun _ _ h => h))
  clear k7 K6 R5' R6
  go_wp2
  go_ret
  exact ⟨rfl, K7.out⟩
end Go.Proofs.Ytfpobagkananeaa
