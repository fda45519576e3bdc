/- Stall, StallB, StallF, StallQ, BdW, in one text. -/
import Derived.Test.YtldjlcdccnnogaaGreatDomBk2
import Derived.Test.YtldjlcdccnnogaaGreatEvS
import Derived.Test.YtldjlcdccnnogaaGreatRigK
import Derived.Test.YtldjlcdccnnogaaGreatPrIn
import Derived.Test.YtldjlcdccnnogaaGreatWtP
import Derived.BigQuiet

/-! stall: made, concerns, Bound: the walks. -/
set_option linter.unusedVariables false
set_option linter.unusedSimpArgs false
namespace Go.Lf
open Go.RowKit
/-- Whether a section with a value may hold up a wait for a set. -/
def concP (kd : Int) (nb : Nat) (s v : Int) : Bool := if kd = 1 then true else if kd = 2 then hasv s v else decide (v.toNat % nb ∈ bkts s.toNat nb)
def bndP (kd : Int) (n nb : Nat) (s : Int) : Nat := if kd = 1 then n else if kd = 2 then 3 * n else 6 * (bkts s.toNat nb).length
/-- The bit of a set, as Go asks for it. -/
theorem shr_and' {s v : Nat} (hs : s < 18446744073709551616) (b : Bool) (hb : s.testBit v = b) : (Go.bits .and .u64 ((s : Int) / 2 ^ v) 1 == 1) = b := by
  rw [show (s : Int) / 2 ^ v = ((s / 2 ^ v : Nat) : Int) by simp]
  have h := bits_and_u64 (a := s / 2 ^ v) (b := 1) (Nat.lt_of_le_of_lt (Nat.div_le_self _ _) hs) (by decide)
  rw [show ((1 : Nat) : Int) = 1 from rfl] at h
  rw [h, ← hb, shift_bit, Nat.and_one_is_mod]
  have : s / 2 ^ v % 2 = 0 ∨ s / 2 ^ v % 2 = 1 := by omega
  rcases this with h | h <;> simp [h]
theorem lt_snoc_mem {l : List Nat} {i : Nat} {x : Nat} (h : l[i]? = some x) (c : Nat) : c ∈ l.take (i + 1) ↔ c ∈ l.take i ∨ c = x := by
  rw [List.take_add_one, h]; simp
end Go.Lf
namespace Go.Proofs.YtldjlcdccnnogaaGreat
open Go.RowKit Go.Lf
abbrev engV (kd : Int) (nb : Nat) : Value := .agg #[.int .u8 kd, .int .i64 (engBk kd nb)]
theorem sizeEng : (Tryz.prog.info? 117).map (·.size) = some 2 := by kernel_rfl
theorem zBoolS (w : World) : (zeroValue 4).run Tryz.prog w = .ok (.bool false) w := by kernel_rfl
/-- What the closure of concerns has caught. -/
structure ConcAt (w : World) (kd : Int) (nb : Nat) (set : Int) (b0 b1 b2 : Nat) : Prop where
  eng : w.heap[b0]? = some (.cells #[.int .u8 kd, .int .i64 (engBk kd nb)] 117 (0, 0))
  sv : w.heap[b1]? = some (.cells #[.int .u64 set] 41 (0, 0))
  map : ∃ r ml, w.heap[b2]? = some (.cells #[.map (some r)] 187 (0, 0)) ∧ IMap .i64 w r ml ∧ (kd = 3 → (∀ c : Nat, c ∈ bkts set.toNat nb → mlook ml c = some (.bool true)) ∧ ∀ c : Nat, c ∉ bkts set.toNat nb → mlook ml c = none)
section
variable {w w' : World} {kd : Int} {nb : Nat}
theorem ConcAt.keep {set : Int} {b0 b1 b2 : Nat} (h : ConcAt w kd nb set b0 b1 b2) (hk : Keep Nil w w') : ConcAt w' kd nb set b0 b1 b2 := by
  obtain ⟨r, ml, h1, h2, h3⟩ := h.map
  exact ⟨hk.at h.eng (fun h => h), hk.at h.sv (fun h => h), r, ml, hk.at h1 (fun h => h), h2.keep hk (fun h => h), h3⟩
set_option maxHeartbeats 2000000 in
theorem stmade_ok (hkd : kd = 1 ∨ kd = 2 ∨ kd = 3) (b0 : 1 ≤ nb) (b1 : nb ≤ 4) {set : Int} (s0 : set ≠ 0) (w : World) : Calls Tryz.prog 45 #[.int .u8 kd, .int .i64 (engBk kd nb), .int .u64 set] w fun e w' => e = .returned (.tuple #[engV kd nb, .int .i64 0]) ∧ Keep Nil w w' := by
  have HH := hid (heap_alloc_new w (.cells #[.int .u8 kd, .int .i64 (engBk kd nb)] 117 (0, 0)))
  have KK := hid ((Keep.refl Nil w).alloc (.cells #[.int .u8 kd, .int .i64 (engBk kd nb)] 117 (0, 0)))
  have es : (set == 0) = false := beq_eq_false_iff_ne.2 s0
  unfold engV
  rcases hkd with rfl | rfl | rfl
  · have eb : engBk 1 nb = 0 := rfl
    rw [eb] at HH KK ⊢
    go_enter Tryz.func45, Tryz.ntmps45
    go_wp2
    refine bodyPost_ret (results_cell_row2 rfl _ _ w.heap.size _ _ (0, 0) _ rfl HH.out Tryz.underlying117 rfl sizeEng) rfl ⟨rfl, KK.out⟩
  · have eb : engBk 2 nb = 0 := rfl
    rw [eb] at HH KK ⊢
    go_enter Tryz.func45, Tryz.ntmps45
    go_wp2
    refine bodyPost_ret (results_cell_row2 rfl _ _ w.heap.size _ _ (0, 0) _ rfl HH.out Tryz.underlying117 rfl sizeEng) rfl ⟨rfl, KK.out⟩
  · have eb : engBk 3 nb = (nb : Int) := rfl
    rw [eb] at HH KK ⊢
    have e1 : ((nb : Int) == 0) = false := beq_eq_false_iff_ne.2 (by omega)
    have e2 : decide ((1 : Int) ≤ (nb : Int)) = true := decide_eq_true (by omega)
    have e3 : decide ((nb : Int) ≤ 16) = true := decide_eq_true (by omega)
    have e4 : decide ((nb : Int) ≥ 1) = true := decide_eq_true (by omega)
    go_enter Tryz.func45, Tryz.ntmps45
    go_wp2
    refine bodyPost_ret (results_cell_row2 rfl _ _ w.heap.size _ _ (0, 0) _ rfl HH.out Tryz.underlying117 rfl sizeEng) rfl ⟨rfl, KK.out⟩
set_option maxHeartbeats 1000000 in
theorem stfull_ok (n s : Int) (w : World) : Calls Tryz.prog 46 #[engV kd nb, .int .i64 n, .int .u64 s] w fun e w' => e = .returned (.int .i64 n) ∧ Keep Nil w w' := by
  have HA := hid ((Keep.refl Nil w).alloc (.cells #[.int .u8 kd, .int .i64 (engBk kd nb)] 117 (0, 0)))
  go_enter Tryz.func46, Tryz.ntmps46
  go_wp2
  go_ret
  exact ⟨rfl, HA.out⟩
set_option maxHeartbeats 1000000 in
theorem steach_ok (n : Nat) (hn : n ≤ 6) (s : Int) (w : World) : Calls Tryz.prog 47 #[engV kd nb, .int .i64 n, .int .u64 s] w fun e w' => e = .returned (.int .i64 ((3 * n : Nat) : Int)) ∧ Keep Nil w w' := by
  have HA := hid ((Keep.refl Nil w).alloc (.cells #[.int .u8 kd, .int .i64 (engBk kd nb)] 117 (0, 0)))
  have hw : IntKind.i64.wrap (3 * (n : Int)) = ((3 * n : Nat) : Int) := by rw [IntKind.wrap_i64]; omega
  go_enter Tryz.func47, Tryz.ntmps47
  go_wp2
  go_ret
  exact ⟨rfl, HA.out⟩
set_option maxHeartbeats 1000000 in
theorem stgate_ok (hb0 : 1 ≤ nb) (hb1 : nb ≤ 4) (n s : Int) (s0 : 0 ≤ s) (s1 : s < 18446744073709551616) (w : World) : Calls Tryz.prog 48 #[engV 3 nb, .int .i64 n, .int .u64 s] w fun e w' => e = .returned (.int .i64 ((6 * (bkts s.toNat nb).length : Nat) : Int)) ∧ Keep Nil w w' := by
  have o0 := heap_alloc_new w (.cells #[.int .u8 3, .int .i64 nb] 117 (0, 0))
  have HA := hid ((Keep.refl Nil w).alloc (.cells #[.int .u8 3, .int .i64 nb] 117 (0, 0)))
  have x1 : (w.alloc (.cells #[.int .u8 3, .int .i64 nb] 117 (0, 0))).cell? ⟨w.heap.size, 1, none⟩ = some (.int .i64 nb) := by rw [cell_of o0]; rfl
  obtain ⟨sn, rfl⟩ : ∃ sn : Nat, s = sn := ⟨s.toNat, by omega⟩
  rw [Int.toNat_natCast]
  have HB := hid (buckets_ok sn nb (by omega) hb0 (by omega) (w.alloc (.cells #[.int .u8 3, .int .i64 nb] 117 (0, 0))))
  have hl : (bkts sn nb).length ≤ nb := bktTo_len _ _ _
  have hw : IntKind.i64.wrap (6 * ((bkts sn nb).length : Int)) = ((6 * (bkts sn nb).length : Nat) : Int) := by rw [IntKind.wrap_i64]; omega
  clear o0
  unfold engV
  rw [show engBk 3 nb = (nb : Int) from rfl]
  go_enter Tryz.func48, Tryz.ntmps48
  go_wp2_with fail
  refine HB.out.mono ?_
  rintro e w2 ⟨v, rfl, hrd, hk, -⟩
  obtain ⟨a, cp, rfl, -, -⟩ := id hrd
  have HK := hid (HA.out.trans hk (fun _ _ e => e))
  clear hrd hk HB
  go_wp2
  go_ret
  exact ⟨rfl, HK.out⟩
set_option maxRecDepth 100000 in
set_option maxHeartbeats 4000000 in
/-- The closure of concerns. -/
theorem stconc_ok (hkd : kd = 1 ∨ kd = 2 ∨ kd = 3) (hb0 : 1 ≤ nb) (hb1 : nb ≤ 4) {set v : Int} {b0 b1 b2 : Nat} (h : ConcAt w kd nb set b0 b1 b2) (s0 : 0 ≤ set) (s1 : set < 18446744073709551616) (v0 : 0 ≤ v) (v1 : v < 64) :
    Calls Tryz.prog 76 #[.int .u64 v, .pointer (some ⟨b0, 0, none⟩), .pointer (some ⟨b1, 0, none⟩), .pointer (some ⟨b2, 0, none⟩)] w fun e w' => e = .returned (.bool (concP kd nb set v)) ∧ Keep Nil w w' := by
  obtain ⟨r, ml, hm, him, hml⟩ := h.map
  have x0 : w.cell? ⟨b0, 0, none⟩ = some (.int .u8 kd) := by rw [cell_of h.eng]; rfl
  have x1 : w.cell? ⟨b0, 1, none⟩ = some (.int .i64 (engBk kd nb)) := by rw [cell_of h.eng]; rfl
  have x2 : w.cell? ⟨b1, 0, none⟩ = some (.int .u64 set) := by rw [cell_of h.sv]; rfl
  have x3 : w.cell? ⟨b2, 0, none⟩ = some (.map (some r)) := by rw [cell_of hm]; rfl
  obtain ⟨sn, rfl⟩ : ∃ sn : Nat, set = sn := ⟨set.toNat, by omega⟩
  obtain ⟨vn, rfl⟩ : ∃ vn : Nat, v = vn := ⟨v.toNat, by omega⟩
  unfold concP
  rcases hkd with rfl | rfl | rfl
  · rw [if_pos rfl]
    clear h hm him hml
    go_enter Tryz.func76, Tryz.ntmps76
    go_wp2
    go_ret
    exact ⟨rfl, Keep.refl _ _⟩
  · have HB := hid (shr_and' (s := sn) (v := vn) (by omega) _ rfl)
    have HH := hid (show hasv (sn : Int) (vn : Int) = sn.testBit vn by unfold hasv; rw [decide_eq_true v1]; simp)
    rw [if_neg (by decide), if_pos rfl, HH.out]
    have hb := HB.out
    have d2 : decide (vn < 64) = true := decide_eq_true (by omega)
    clear h hm him hml
    go_enter Tryz.func76, Tryz.ntmps76
    go_wp2
    go_ret
    exact ⟨by simp, Keep.refl _ _⟩
  · obtain ⟨m1, m2⟩ := hml rfl
    rw [if_neg (by decide), if_neg (by decide)]
    rw [Int.toNat_natCast] at *
    rw [Int.toNat_natCast]
    have eb : engBk 3 nb = (nb : Int) := rfl
    rw [eb] at x1
    have nz : ((nb : Int) == 0) = false := beq_eq_false_iff_ne.2 (by omega)
    have em : (vn : Int).tmod (nb : Int) = ((vn % nb : Nat) : Int) := by rw [Int.tmod_eq_emod_of_nonneg (by omega)]; omega
    have ew : IntKind.i64.wrap (vn : Int) = (vn : Int) := by rw [IntKind.wrap_i64]; omega
    have hlk : ∀ W', IMap .i64 W' r ml → (Instr.lookup 187 (.map (some r)) (.int .i64 ((vn : Int) % (nb : Int))) false).run Tryz.prog W' = .ok (.bool (decide (vn % nb ∈ bkts sn nb))) W' := fun W' hW' => by
      rw [look_one hW' Tryz.underlying187 Tryz.underlying3 (zBoolS W') _, show ((vn : Int) % (nb : Int)) = ((vn % nb : Nat) : Int) from (Int.natCast_emod _ _).symm]
      by_cases hc : vn % nb ∈ bkts sn nb
      · rw [m1 _ hc, decide_eq_true hc]; rfl
      · rw [m2 _ hc, decide_eq_false hc]; rfl
    have HLK := hid (fun q => hlk (w.drewN q) (him.keep ((Keep.refl Nil w).drewN q) (fun h => h)))
    clear h hm him hml m1 m2 hlk
    go_enter Tryz.func76, Tryz.ntmps76
    have hlk := HLK.out
    go_upto_region 6 with fail
    go_quiet ((rw [hlk]; exact ⟨rfl, rfl⟩))
    go_wp2
    go_ret
    exact ⟨rfl, (Keep.refl Nil w).drewN _⟩
def ConcTo (w : World) (kd : Int) (nb : Nat) (set : Int) (e : Ending) (w' : World) : Prop :=
  ∃ b0 b1 b2, e = .returned (.func (.func 76) #[] #[.pointer (some ⟨b0, 0, none⟩), .pointer (some ⟨b1, 0, none⟩), .pointer (some ⟨b2, 0, none⟩)]) ∧ ConcAt w' kd nb set b0 b1 b2 ∧ Keep Nil w w'
/-- The set of buckets so far. -/
def BSet (W : World) (r : Nat) (l : List Nat) (i : Nat) : Prop := ∃ ml, IMap .i64 W r ml ∧ (∀ c : Nat, c ∈ l.take i → mlook ml c = some (.bool true)) ∧ ∀ c : Nat, c ∉ l.take i → mlook ml c = none
set_option maxRecDepth 100000 in
set_option maxHeartbeats 4000000 in
theorem stconcerns_ok (hkd : kd = 1 ∨ kd = 2 ∨ kd = 3) (hb0 : 1 ≤ nb) (hb1 : nb ≤ 4) {set : Int} (s0 : 0 ≤ set) (s1 : set < 18446744073709551616) (w : World) :
    Calls Tryz.prog 51 #[engV kd nb, .int .u64 set] w (ConcTo w kd nb set) := by
  obtain ⟨W0, hW0⟩ : ∃ W0, W0 = w.alloc (.cells #[.int .u8 kd, .int .i64 (engBk kd nb)] 117 (0, 0)) := ⟨_, rfl⟩
  obtain ⟨W1, hW1⟩ : ∃ W1, W1 = W0.alloc (.cells #[.int .u64 set] 41 (0, 0)) := ⟨_, rfl⟩
  obtain ⟨W2, hW2⟩ : ∃ W2, W2 = W1.alloc (.map #[] 0) := ⟨_, rfl⟩
  obtain ⟨W3, hW3⟩ : ∃ W3, W3 = W2.alloc (.cells #[.map (some W1.heap.size)] 187 (0, 0)) := ⟨_, rfl⟩
  have k01 : Keep Nil W0 W1 := by rw [hW1]; exact (Keep.refl _ _).alloc _
  have k12 : Keep Nil W1 W2 := by rw [hW2]; exact (Keep.refl _ _).alloc _
  have k23 : Keep Nil W2 W3 := by rw [hW3]; exact (Keep.refl _ _).alloc _
  have k0 : Keep Nil w W0 := by rw [hW0]; exact (Keep.refl _ _).alloc _
  have z0 : W0.heap.size = w.heap.size + 1 := by rw [hW0, World.size_alloc]
  have z1 : W1.heap.size = w.heap.size + 1 + 1 := by rw [hW1, World.size_alloc, z0]
  have z2 : W2.heap.size = w.heap.size + 1 + 1 + 1 := by rw [hW2, World.size_alloc, z1]
  have o0 : W3.heap[w.heap.size]? = some (.cells #[.int .u8 kd, .int .i64 (engBk kd nb)] 117 (0, 0)) := ((k01.trans k12 (fun _ _ h => h)).trans k23 (fun _ _ h => h)).at (by rw [hW0]; exact heap_alloc_new w _) (fun h => h)
  have o1 : W3.heap[w.heap.size + 1]? = some (.cells #[.int .u64 set] 41 (0, 0)) := (k12.trans k23 (fun _ _ h => h)).at (by rw [hW1, ← z0]; exact heap_alloc_new W0 _) (fun h => h)
  have im : IMap .i64 W3 (w.heap.size + 1 + 1) [] := by rw [← z1]; exact (show IMap .i64 W2 W1.heap.size [] by rw [hW2]; exact imap_new W1).keep k23 (fun h => h)
  have o3 : W3.heap[w.heap.size + 1 + 1 + 1]? = some (.cells #[.map (some (w.heap.size + 1 + 1))] 187 (0, 0)) := by rw [hW3, ← z2, z1]; exact heap_alloc_new W2 _
  have hk : Keep Nil w W3 := ((k0.trans k01 (fun _ _ h => h)).trans k12 (fun _ _ h => h)).trans k23 (fun _ _ h => h)
  have x0 : W3.cell? ⟨w.heap.size, 0, none⟩ = some (.int .u8 kd) := by rw [cell_of o0]; rfl
  have x1 : W3.cell? ⟨w.heap.size, 1, none⟩ = some (.int .i64 (engBk kd nb)) := by rw [cell_of o0]; rfl
  have x2 : W3.cell? ⟨w.heap.size + 1, 0, none⟩ = some (.int .u64 set) := by rw [cell_of o1]; rfl
  have x3 : W3.cell? ⟨w.heap.size + 1 + 1 + 1, 0, none⟩ = some (.map (some (w.heap.size + 1 + 1))) := by rw [cell_of o3]; rfl
  have hmm := @run_makeMap Tryz.prog
  obtain ⟨sn, rfl⟩ : ∃ sn : Nat, set = sn := ⟨set.toNat, by omega⟩
  have HK := hid hk
  have HNR := hid (show w.heap.size ≤ w.heap.size + 1 + 1 by omega)
  have O0 := hid o0
  have O1 := hid o1
  have O3 := hid o3
  have IM := hid im
  have HSM := hid (show W3 = (((w.alloc (.cells #[.int .u8 kd, .int .i64 (engBk kd nb)] 117 (0, 0))).alloc (.cells #[.int .u64 sn] 41 (0, 0))).alloc (.map #[] 0)).alloc (.cells #[.map (some (w.heap.size + 1 + 1))] 187 (0, 0)) by rw [hW3, z1, hW2, hW1, hW0])
  clear k01 k12 k23 k0 o0 o1 o3 im hk hW0 hW1 hW2 hW3 z0 z1 z2
  unfold engV
  by_cases h3 : kd = 3
  · subst h3
    have HB := hid (buckets_ok sn nb (by omega) hb0 (by omega) W3)
    obtain ⟨l, hl⟩ : ∃ l, l = bkts sn nb := ⟨_, rfl⟩
    have hll : l.length ≤ 4 := by rw [hl]; exact Nat.le_trans (bktTo_len _ _ _) hb1
    have HLQ := hid hl
    rw [← hl] at HB
    clear hkd hl
    have eb : engBk 3 nb = (nb : Int) := rfl
    rw [eb] at x1 HSM O0
    simp only [eb]
    go_enter Tryz.func51, Tryz.ntmps51
    go_upto_region 2 with fail
    rw [← HSM.out]
    clear HSM
    generalize w.heap.size + 1 + 1 + 1 = c2 at *
    generalize w.heap.size + 1 + 1 = r at *
    generalize w.heap.size + 1 = c1 at *
    generalize hc0 : w.heap.size = c0 at *
    have HC0 := hid hc0
    clear hc0
    go_wp2_with fail
    refine HB.out.mono ?_
    rintro e W4 ⟨v, rfl, hrd, hk4, -⟩
    obtain ⟨a, cp, rfl, -, -⟩ := id hrd
    have HRD := hid hrd
    have HK4 := hid hk4
    have HS0 := hid (show BSet W4 r l 0 from ⟨[], IM.out.keep hk4 (fun h => h), fun c h => by simp at h, fun c h => rfl⟩)
    have x3 := hk4.cell x3 (fun h => h)
    have X3 := hid x3
    have HIM4 := hid (IM.out.keep hk4 (fun h => h))
    have NR3 := hid (show r ≠ c2 from IM.out.ne O3.out)
    have NR0 := hid (show r ≠ c0 from IM.out.ne O0.out)
    have NR1 := hid (show r ≠ c1 from IM.out.ne O1.out)
    have NEW := hid HNR.out
    clear hrd hk4 HB x0 x1 x2 x3 IM
    go_wp2
    go_loopw [23] (fun iv wz => ∃ i : Nat, i ≤ l.length ∧ iv = .int .i64 (i : Int) ∧ Hid (BSet wz r l i ∧ Keep (fun k => k = r) W4 wz)) (fun iv _ => l.length - (intOf iv).toNat)
    case atStart => exact ⟨0, Nat.zero_le _, rfl, hid ⟨HS0.out, Keep.refl _ _⟩⟩
    case round =>
      obtain ⟨i, hi, rfl, HI⟩ := hrel
      clear HS0
      by_cases hlt : i < l.length
      · have d1 : decide ((i : Int) < (l.length : Int)) = true := decide_eq_true (by omega)
        have wi : IntKind.i64.wrap ((i : Int) + 1) = (i : Int) + 1 := by rw [IntKind.wrap_i64]; omega
        have i0 : (0 : Int) ≤ (i : Int) := by omega
        obtain ⟨x, hx⟩ : ∃ x, l[i]? = some x := ⟨_, List.getElem?_eq_getElem hlt⟩
        obtain ⟨ab, ao, ac, hve, hcl⟩ := Rd.cell HRD.out (by omega)
        simp only [Value.slice.injEq] at hve
        obtain ⟨rfl, -, rfl⟩ := hve
        have hw0 : W4.cell? ⟨ab, ao + i, none⟩ = some (.int .i64 x) := hcl _ _ (nums_at hx)
        obtain ⟨ml, hml, hm1, hm2⟩ := HI.out.1
        have nrab : ab ≠ r := fun e => by
          have hh := hw0
          rw [e] at hh
          obtain ⟨es, clock, hes, -⟩ := hml
          have h4 := HIM4.out
          obtain ⟨es4, clock4, hes4, -⟩ := h4
          simp [World.cell?, hes4] at hh
        have q0 : wr.cell? ⟨ab, ao + i, none⟩ = some (.int .i64 x) := HI.out.2.cell hw0 nrab
        have x3 : wr.cell? ⟨c2, 0, none⟩ = some (.map (some r)) := HI.out.2.cell X3.out (fun e => NR3.out e.symm)
        obtain ⟨W5, hrun, hm5, k5, z5⟩ := put_run hml Tryz.underlying187 Tryz.underlying3 x (.bool true)
        have HN := hid (show BSet W5 r l (i + 1) from ⟨_, hm5, fun c hc => by
            rw [mlook_put]
            split
            · rfl
            · rename_i hne
              rcases (lt_snoc_mem hx c).1 hc with h | h
              · exact hm1 c h
              · exact absurd (by rw [h]) hne, fun c hc => by
            rw [mlook_put, if_neg (fun e => hc ((lt_snoc_mem hx c).2 (.inr (by omega))))]
            exact hm2 c (fun h => hc ((lt_snoc_mem hx c).2 (.inl h)))⟩)
        have HK5 := hid (HI.out.2.trans k5 (fun k _ h => h))
        clear hcl hx hw0 nrab hml hm1 hm2 hm5 k5 z5 HI
        go_wp2
        go_roundw
        case rel => exact ⟨i + 1, by omega, by go_num, hid ⟨HN.out, HK5.out⟩⟩
        case measure => simp [intOf]; omega
      · obtain rfl : i = l.length := by omega
        have d1 : decide ((l.length : Int) < (l.length : Int)) = false := decide_eq_false (by omega)
        obtain ⟨ml, hml, hm1, hm2⟩ := HI.out.1
        rw [List.take_length] at hm1 hm2
        have FIN := hid (show ConcAt wr 3 nb (sn : Int) c0 c1 c2 from by
          refine ⟨by rw [eb]; exact HI.out.2.at (HK4.out.at O0.out (fun h => h)) (fun e => NR0.out e.symm), HI.out.2.at (HK4.out.at O1.out (fun h => h)) (fun e => NR1.out e.symm), r, ml, HI.out.2.at (HK4.out.at O3.out (fun h => h)) (fun e => NR3.out e.symm), hml, fun _ => ?_⟩
          rw [Int.toNat_natCast, ← HLQ.out]
          exact ⟨hm1, hm2⟩)
        have HKF := hid ((HK.out.trans HK4.out (fun _ _ h => h)).trans HI.out.2 (fun k hk e => by have := NEW.out; have := HC0.out; omega))
        clear hml hm1 hm2 HI
        go_wp2
        go_ret
        exact ⟨c0, c1, c2, rfl, FIN.out, HKF.out⟩
  · have n3 : (kd == 3) = false := beq_eq_false_iff_ne.2 h3
    have FIN := hid (show ConcAt W3 kd nb (sn : Int) w.heap.size (w.heap.size + 1) (w.heap.size + 1 + 1 + 1) from ⟨O0.out, O1.out, _, _, O3.out, IM.out, fun e => absurd e h3⟩)
    clear O0 O1 O3 IM h3 hkd
    go_enter Tryz.func51, Tryz.ntmps51
    go_upto_region 2 with fail
    rw [← HSM.out]
    clear HSM
    generalize w.heap.size + 1 + 1 + 1 = c2 at *
    generalize w.heap.size + 1 + 1 = r at *
    generalize w.heap.size + 1 = c1 at *
    generalize w.heap.size = c0 at *
    go_wp2
    go_ret
    exact ⟨c0, c1, c2, rfl, FIN.out, HK.out⟩
end
end Go.Proofs.YtldjlcdccnnogaaGreat

/-! stall.Bound: the walk. -/
set_option linter.unusedVariables false
set_option linter.unusedSimpArgs false
namespace Go.Proofs.YtldjlcdccnnogaaGreat
open Go.RowKit Go.Lf
section
variable {w w' : World} {kd : Int} {nb : Nat}
set_option maxRecDepth 100000 in
set_option maxHeartbeats 4000000 in
theorem stbound_ok (hkd : kd = 1 ∨ kd = 2 ∨ kd = 3) (hb0 : 1 ≤ nb) (hb1 : nb ≤ 4) {n : Nat} (n0 : 1 ≤ n) (n6 : n ≤ 6) {set : Int} (s0 : 0 < set) (s1 : set < 18446744073709551616) (w : World) :
    Calls Tryz.prog 23 #[.int .u8 kd, .int .i64 n, .int .i64 (engBk kd nb), .int .u64 set] w fun e w' => e = .returned (.tuple #[.int .i64 ((bndP kd n nb set : Nat) : Int), .int .i64 0]) ∧ Keep Nil w w' := by
  have HMD := hid (stmade_ok hkd hb0 hb1 (set := set) (by omega) w)
  have d1 : decide ((n : Int) < 1) = false := decide_eq_false (by omega)
  have d2 : decide ((n : Int) > 64) = false := decide_eq_false (by omega)
  have d3 : decide ((64 : Int) < (n : Int)) = false := decide_eq_false (by omega)
  have HF := hid (fun W => stfull_ok (kd := kd) (nb := nb) n set W)
  have HE := hid (fun W => steach_ok (kd := kd) (nb := nb) n n6 set W)
  have HG := hid (fun W => stgate_ok (nb := nb) hb0 hb1 n set (by omega) s1 W)
  have HBP := hid (show bndP kd n nb set = if kd = 1 then n else if kd = 2 then 3 * n else 6 * (bkts set.toNat nb).length from rfl)
  rcases hkd with rfl | rfl | rfl
  · rw [if_pos rfl] at HBP
    go_enter Tryz.func23, Tryz.ntmps23
    go_wp2_with fail
    refine HMD.out.mono ?_
    rintro e w1 ⟨rfl, hk1⟩
    have HK1 := hid hk1
    clear hk1 HMD
    go_wp2_with fail
    refine (HF.out _).mono ?_
    rintro e w2 ⟨rfl, hk2⟩
    have HK2 := hid (((HK1.out.alloc _).alloc _).trans hk2 (fun _ _ h => h))
    clear hk2 HK1
    go_wp2
    go_ret2
    exact ⟨by rw [HBP.out]; first | rfl | (rw [Int.natCast_mul]; rfl), HK2.out⟩
  · rw [if_neg (by decide), if_pos rfl] at HBP
    go_enter Tryz.func23, Tryz.ntmps23
    go_wp2_with fail
    refine HMD.out.mono ?_
    rintro e w1 ⟨rfl, hk1⟩
    have HK1 := hid hk1
    clear hk1 HMD
    go_wp2_with fail
    refine (HE.out _).mono ?_
    rintro e w2 ⟨rfl, hk2⟩
    have HK2 := hid (((HK1.out.alloc _).alloc _).trans hk2 (fun _ _ h => h))
    clear hk2 HK1
    go_wp2
    go_ret2
    exact ⟨by rw [HBP.out]; first | rfl | (rw [Int.natCast_mul]; rfl), HK2.out⟩
  · rw [if_neg (by decide), if_neg (by decide)] at HBP
    go_enter Tryz.func23, Tryz.ntmps23
    go_wp2_with fail
    refine HMD.out.mono ?_
    rintro e w1 ⟨rfl, hk1⟩
    have HK1 := hid hk1
    clear hk1 HMD
    go_wp2_with fail
    refine (HG.out _).mono ?_
    rintro e w2 ⟨rfl, hk2⟩
    have HK2 := hid (((HK1.out.alloc _).alloc _).trans hk2 (fun _ _ h => h))
    clear hk2 HK1
    go_wp2
    go_ret2
    exact ⟨by rw [HBP.out]; first | rfl | (rw [Int.natCast_mul]; rfl), HK2.out⟩
end
end Go.Proofs.YtldjlcdccnnogaaGreat

/-! stall: found and the closures of Quiet: the walks. -/
set_option linter.unusedVariables false
set_option linter.unusedSimpArgs false
namespace Go.Lf
open Go.RowKit
theorem results_cell_3 {P : Program} {fn : Func} {p u v x : Tmp} {ty : TypeId} (h : fn.results = #[.cell p ty, .tmp u, .tmp v, .tmp x]) (tmps : Array Value) (w : World) (g : Nat) (t : TypeId) (cs : Array Value) (fr : Nat × Nat) (d : TypeDesc)
    (hp : tmps.getD p undef = .pointer (some ⟨g, 0, none⟩)) (hg : w.heap[g]? = some (.cells cs t fr))
    (hu : P.underlying ty = some d) (hd : (match d with | .struct _ | .array _ _ => true | _ => false) = true) (hi : (P.info? ty).map (·.size) = some cs.size) :
    (results fn tmps).run P w = .ok (.tuple #[.agg cs, tmps.getD u undef, tmps.getD v undef, tmps.getD x undef]) w := by
  have hp' : tmps[p]?.getD undef = .pointer (some ⟨g, 0, none⟩) := by simpa using hp
  simp [results, h, hp', asAddr, run_loadVar_row w g t ty cs fr d hg hu hd hi, Result.andThen]
end Go.Lf
namespace Go.Proofs.YtldjlcdccnnogaaGreat
open Go.RowKit Go.Lf
section
variable {w w' : World} {kd : Int} {nb : Nat}
set_option maxRecDepth 100000 in
set_option maxHeartbeats 4000000 in
/-- meets. -/
theorem stmeets_ok {b1 b2 : Nat} {p : PrR} {s0 : Int} (h1 : w.heap[b1]? = some (.cells p.cells.toArray 76 (0, 0))) (h2 : w.heap[b2]? = some (.cells #[.int .i64 s0] 3 (0, 0))) (a b : Int) :
    Calls Tryz.prog 50 #[.int .i64 a, .int .i64 b, .pointer (some ⟨b1, 0, none⟩), .pointer (some ⟨b2, 0, none⟩)] w fun e w' => e = .returned (.bool (meetsP p.b s0 a b)) ∧ Keep Nil w w' := by
  have x1 : w.cell? ⟨b1, 3, none⟩ = some (.int .i64 p.b) := by rw [cell_of h1]; rfl
  have x2 : w.cell? ⟨b2, 0, none⟩ = some (.int .i64 s0) := by rw [cell_of h2]; rfl
  obtain ⟨te, hte⟩ : ∃ te, te = p.b := ⟨_, rfl⟩
  rw [← hte] at x1 ⊢
  clear h1 h2 hte
  unfold meetsP
  cases c1 : decide (te < 0) with
  | true =>
    cases c3 : decide (b < 0) with
    | true =>
      go_enter Tryz.func50, Tryz.ntmps50
      go_wp2
      go_ret
      exact ⟨rfl, Keep.refl _ _⟩
    | false =>
      cases c4 : decide (s0 ≤ b) with
      | true =>
        have c5 : decide (b ≥ s0) = true := c4
        go_enter Tryz.func50, Tryz.ntmps50
        go_wp2
        go_ret
        exact ⟨rfl, Keep.refl _ _⟩
      | false =>
        have c5 : decide (b ≥ s0) = false := c4
        go_enter Tryz.func50, Tryz.ntmps50
        go_wp2
        go_ret
        exact ⟨rfl, Keep.refl _ _⟩
  | false =>
    cases c2 : decide (a ≤ te) with
    | false =>
      go_enter Tryz.func50, Tryz.ntmps50
      go_wp2
      go_ret
      exact ⟨rfl, Keep.refl _ _⟩
    | true =>
      cases c3 : decide (b < 0) with
      | true =>
        go_enter Tryz.func50, Tryz.ntmps50
        go_wp2
        go_ret
        exact ⟨rfl, Keep.refl _ _⟩
      | false =>
        cases c4 : decide (s0 ≤ b) with
        | true =>
          have c5 : decide (b ≥ s0) = true := c4
          go_enter Tryz.func50, Tryz.ntmps50
          go_wp2
          go_ret
          exact ⟨rfl, Keep.refl _ _⟩
        | false =>
          have c5 : decide (b ≥ s0) = false := c4
          go_enter Tryz.func50, Tryz.ntmps50
          go_wp2
          go_ret
          exact ⟨rfl, Keep.refl _ _⟩
def FoundTo (w : World) (kd : Int) (nb : Nat) (l : List EvR) (e : Ending) (w' : World) : Prop :=
  ∃ a cp b cq, e = .returned (.tuple #[engV kd nb, .slice a (prs 1 2 l).length cp, .slice b (prs 3 4 l).length cq, .int .i64 0]) ∧ Rd w' 4 (.slice a (prs 1 2 l).length cp) (prs 1 2 l).length (prCells (prs 1 2 l)) ∧ Rd w' 4 (.slice b (prs 3 4 l).length cq) (prs 3 4 l).length (prCells (prs 3 4 l)) ∧ Keep Nil w w'
set_option maxRecDepth 100000 in
set_option maxHeartbeats 4000000 in
theorem stfound_ok (hkd : kd = 1 ∨ kd = 2 ∨ kd = 3) (hb0 : 1 ≤ nb) (hb1 : nb ≤ 4) (l : List EvR) (h : EvGood l) (v : Value) (rd : Rd w 4 v l.length (evCells l)) (hm : l.length ≤ 100000) {wi : Nat} {p : PrR} (hp : (prs 3 4 l)[wi]? = some p) {s0 : Int} (hs : p.a ≤ s0) :
    Calls Tryz.prog 49 #[.int .u8 kd, .int .i64 (engBk kd nb), .int .i64 wi, .int .i64 s0, v] w (FoundTo w kd nb l) := by
  have HF := hid (fun (w' : World) (a : Option Addr) (cp : Nat) (b : Option Addr) (cq : Nat) (h1 : Rd w' 4 (.slice a (prs 1 2 l).length cp) (prs 1 2 l).length (prCells (prs 1 2 l))) (h2 : Rd w' 4 (.slice b (prs 3 4 l).length cq) (prs 3 4 l).length (prCells (prs 3 4 l))) (h3 : Keep Nil w w') => (show FoundTo w kd nb l (.returned (.tuple #[engV kd nb, .slice a (prs 1 2 l).length cp, .slice b (prs 3 4 l).length cq, .int .i64 0])) w' from ⟨a, cp, b, cq, rfl, h1, h2, h3⟩))
  have hh := heap_alloc_new w (.cells #[.int .u8 0, .int .i64 0] 117 (0, 0))
  have k0 : Keep Nil w (w.alloc (.cells #[.int .u8 0, .int .i64 0] 117 (0, 0))) := (Keep.refl _ _).alloc _
  have HM := hid (stmade_ok hkd hb0 hb1 (set := 1) (by decide) (w.alloc (.cells #[.int .u8 0, .int .i64 0] 117 (0, 0))))
  have HS := hid (fun (W : World) (hk : Keep Nil w W) => Sections_ok (w := W) l h v (rd_keep rd hk (fun _ _ h => h)) hm)
  have HW := hid (fun (W : World) (hk : Keep Nil w W) => Waits_ok (w := W) l h v (rd_keep rd hk (fun _ _ h => h)) hm)
  have hwl := (List.getElem?_eq_some_iff.1 hp).1
  obtain ⟨A, hA⟩ : ∃ A, A = prs 1 2 l := ⟨_, rfl⟩
  obtain ⟨B, hB⟩ : ∃ B, B = prs 3 4 l := ⟨_, rfl⟩
  obtain ⟨FT, hFT⟩ : ∃ FT, FT = FoundTo w kd nb l := ⟨_, rfl⟩
  rw [← hFT] at HF ⊢
  unfold PairsTo at HS HW
  rw [← hA] at HF HS
  rw [← hB] at HF HW hp hwl
  have HP := hid hp
  have O0 := hid hh
  have K0 := hid k0
  have d1 : decide ((wi : Int) < 0) = false := decide_eq_false (by omega)
  have d2 : decide ((wi : Int) ≥ (B.length : Int)) = false := decide_eq_false (by omega)
  have d2' : decide ((B.length : Int) ≤ (wi : Int)) = false := decide_eq_false (by omega)
  have d3 : decide (s0 < p.a) = false := decide_eq_false (by omega)
  have i0 : (0 : Int) ≤ (wi : Int) := by omega
  have i1 : (wi : Int) < (B.length : Int) := by omega
  clear rd h hh k0 hp hA hB hFT hkd
  unfold engV at HM HF
  generalize engBk kd nb = bk at *
  go_enter Tryz.func49, Tryz.ntmps49
  go_wp2_with fail
  refine HM.out.mono ?_
  rintro e w1 ⟨rfl, hk1⟩
  have o1 := hk1.at O0.out (fun h => h)
  have f0 := free_of o1 0
  have f1 := free_of o1 1
  have g0 : w1.cell? ⟨w.heap.size, 0, none⟩ = some (.int .u8 0) := by rw [cell_of o1]; rfl
  have g1 : w1.cell? ⟨w.heap.size, 1, none⟩ = some (.int .i64 0) := by rw [cell_of o1]; rfl
  have O1 := hid o1
  have K1 := hid (K0.out.trans hk1 (fun _ _ h => h))
  clear hk1 HM O0 K0 o1
  go_upto_region 4 with fail
  obtain ⟨W, hW⟩ : ∃ W, W = (w1.setCell ⟨w.heap.size, 0, none⟩ (.int .u8 kd)).setCell ⟨w.heap.size, 1, none⟩ (.int .i64 bk) := ⟨_, rfl⟩
  rw [← hW]
  have OW := hid (show W.heap[w.heap.size]? = some (.cells #[.int .u8 kd, .int .i64 bk] 117 (0, 0)) by rw [hW]; exact set_same (set_same O1.out _) _)
  have KW := hid (show Keep Nil w W by rw [hW]; exact (K1.out.setCell (.inr (Nat.le_refl _)) _).setCell (.inr (Nat.le_refl _)) _)
  clear hW g0 g1 f0 f1 O1 K1
  go_wp2_with fail
  refine (HS.out W KW.out).mono ?_
  rintro e w2 ⟨a, cp, rfl, hr2, hk2, hn2⟩
  have zW := lt_of_block OW.out
  have N2 := hid (show ∀ k, (Value.slice a A.length cp).ownBlock = some k → k ≠ w.heap.size from fun k hk e => by have := hn2 k hk; omega)
  have R2 := hid (row_rd hr2)
  have K2 := hid (KW.out.trans hk2 (fun _ _ h => h))
  have O2 := hid (hk2.at OW.out (fun h => h))
  clear hr2 hk2 hn2 zW HS OW KW
  go_wp2_with fail
  refine (HW.out w2 K2.out).mono ?_
  rintro e w3 ⟨b, cq, rfl, hr3, hk3, hn3⟩
  have z2 := lt_of_block O2.out
  have N3 := hid (show ∀ k, (Value.slice b B.length cq).ownBlock = some k → k ≠ w.heap.size from fun k hk e => by have := hn3 k hk; omega)
  have R3 := hid (row_rd hr3)
  have R2' := hid (rd_keep R2.out hk3 (fun _ _ h => h))
  have K3 := hid (K2.out.trans hk3 (fun _ _ h => h))
  have o3 := hk3.at O2.out (fun h => h)
  obtain ⟨bb, bo, bc, hve, hcl⟩ := Rd.cell R3.out (by omega)
  simp only [Value.slice.injEq] at hve
  obtain ⟨rfl, -, rfl⟩ := hve
  have q2 : w3.cell? ⟨bb, bo + wi * 4 + 2, none⟩ = some (.int .i64 p.a) := by rw [Nat.add_assoc]; exact hcl _ _ (prCells_at HP.out rfl)
  have f0 := free_of o3 0
  have f1 := free_of o3 1
  have g0 : w3.cell? ⟨w.heap.size, 0, none⟩ = some (.int .u8 kd) := by rw [cell_of o3]; rfl
  have g1 : w3.cell? ⟨w.heap.size, 1, none⟩ = some (.int .i64 bk) := by rw [cell_of o3]; rfl
  have O3 := hid o3
  clear hr3 hk3 hn3 z2 HW O2 K2 R2 hcl o3
  go_wp2
  obtain ⟨V, hV⟩ : ∃ V, V = (w3.setCell ⟨w.heap.size, 0, none⟩ (.int .u8 kd)).setCell ⟨w.heap.size, 1, none⟩ (.int .i64 bk) := ⟨_, rfl⟩
  rw [← hV]
  have hh : V.heap[w.heap.size]? = some (.cells #[.int .u8 kd, .int .i64 bk] 117 (0, 0)) := by rw [hV]; exact set_same (set_same O3.out _) _
  have kV : Keep (fun k => k = w.heap.size) w3 V := by rw [hV]; exact Keep.setCell (S := fun k => k = w.heap.size) (Keep.setCell (S := fun k => k = w.heap.size) (Keep.refl _ _) (.inl rfl) _) (.inl rfl) _
  refine bodyPost_ret (results_cell_3 rfl _ _ w.heap.size _ _ (0, 0) _ rfl hh Tryz.underlying117 rfl sizeEng) rfl ?_
  exact HF.out V _ _ _ _ (rd_keep R2'.out kV N2.out) (rd_keep R3.out kV N3.out) (K3.out.trans kV (fun k hk e => by omega))
end
end Go.Proofs.YtldjlcdccnnogaaGreat

/-! stall.Quiet: the walk. -/
set_option linter.unusedVariables false
set_option linter.unusedSimpArgs false
namespace Go.Lf
/-- The values of sections. -/
theorem sec_val {l : List EvR} (h : EvGood l) {q : PrR} (hq : q ∈ prs 1 2 l) : 0 ≤ q.val ∧ q.val < 64 := by
  have h1 : (q.th, q.val, q.a) ∈ (prs 1 2 l).map (fun p => (p.th, p.val, p.a)) := List.mem_map_of_mem hq
  rw [prs_keys (by decide)] at h1
  obtain ⟨x, hx, e⟩ := List.mem_map.1 h1
  simp only [Prod.mk.injEq] at e
  rw [List.mem_filter] at hx
  obtain ⟨i, hi⟩ := List.getElem?_of_mem hx.1
  have hk : x.kind = 1 := by simpa using hx.2
  obtain ⟨hw, -, ho, -⟩ := h.at hi
  rcases ho with ⟨-, -, h3⟩ | ⟨h3, -⟩ | ⟨h3, -⟩ | ⟨h3, -⟩
  · have := hw.v0; omega
  · omega
  · omega
  · omega
end Go.Lf
namespace Go.Proofs.YtldjlcdccnnogaaGreat
open Go.RowKit Go.Lf
section
variable {w w' : World} {kd : Int} {nb : Nat}
def QuietTo (w : World) (l : List EvR) (conc : Int → Int → Bool) (wi : Nat) (p : PrR) (s0 : Int) (e : Ending) (w' : World) : Prop :=
  ∃ q : Bool, e = .returned (.tuple #[.bool q, .int .i64 0]) ∧ (q = true → QuietP l conc wi p s0) ∧ Keep Nil w w'
/-- What Quiet has laid. -/
structure QLaid (w : World) (kd : Int) (nb : Nat) (A B : List PrR) (va vb : Value) (p : PrR) (s0 : Int) (b0 b1 b2 bw bs : Nat) : Prop where
  c : ConcAt w kd nb p.val b0 b1 b2
  wt : w.heap[bw]? = some (.cells p.cells.toArray 76 (0, 0))
  s : w.heap[bs]? = some (.cells #[.int .i64 s0] 3 (0, 0))
  ra : Rd w 4 va A.length (prCells A)
  rb : Rd w 4 vb B.length (prCells B)
theorem QLaid.keep {A B : List PrR} {va vb : Value} {p : PrR} {s0 : Int} {b0 b1 b2 bw bs : Nat} (h : QLaid w kd nb A B va vb p s0 b0 b1 b2 bw bs) (hk : Keep Nil w w') : QLaid w' kd nb A B va vb p s0 b0 b1 b2 bw bs :=
  ⟨h.c.keep hk, hk.at h.wt (fun h => h), hk.at h.s (fun h => h), rd_keep h.ra hk (fun _ _ h => h), rd_keep h.rb hk (fun _ _ h => h)⟩
set_option maxRecDepth 100000 in
set_option maxHeartbeats 8000000 in
theorem stquiet_ok (hkd : kd = 1 ∨ kd = 2 ∨ kd = 3) (hb0 : 1 ≤ nb) (hb1 : nb ≤ 4) (l : List EvR) (h : EvGood l) (v : Value) (rd : Rd w 4 v l.length (evCells l)) (hm : l.length ≤ 100000) {wi : Nat} {p : PrR} (hp : (prs 3 4 l)[wi]? = some p) {s0 : Int} (hs : p.a ≤ s0) :
    Calls Tryz.prog 24 #[.int .u8 kd, .int .i64 (engBk kd nb), .int .i64 wi, .int .i64 s0, v] w (QuietTo w l (concP kd nb) wi p s0) := by
  have I3 := PrInv.of (bk := 3) (ek := 4) (.inr ⟨rfl, rfl⟩) h
  have I1 := PrInv.of (bk := 1) (ek := 2) (.inl ⟨rfl, rfl⟩) h
  have HPB := hid (I3.bd wi p hp)
  have HSV := hid (fun q hq => sec_val (q := q) h hq)
  have hA5 : (prs 1 2 l).length ≤ 100000 := Nat.le_trans I1.len hm
  have hB5 : (prs 3 4 l).length ≤ 100000 := Nat.le_trans I3.len hm
  have kA : Keep Nil w (w.alloc (.cells #[.int .i64 s0] 3 (0, 0))) := (Keep.refl _ _).alloc _
  have oA := heap_alloc_new w (.cells #[.int .i64 s0] 3 (0, 0))
  have HF := hid (stfound_ok (w := w.alloc (.cells #[.int .i64 s0] 3 (0, 0))) hkd hb0 hb1 l h v (rd_keep rd kA (fun _ _ h => h)) hm hp hs)
  have HCC := hid (fun W => stconcerns_ok (set := p.val) hkd hb0 hb1 HPB.out.2.2.2.1 HPB.out.2.2.2.2.1 W)
  have HCK := hid (fun (W : World) (b0 b1 b2 : Nat) (hc : ConcAt W kd nb p.val b0 b1 b2) (v : Int) (v0 : 0 ≤ v) (v1 : v < 64) => stconc_ok hkd hb0 hb1 hc HPB.out.2.2.2.1 HPB.out.2.2.2.2.1 v0 v1)
  have hwl := (List.getElem?_eq_some_iff.1 hp).1
  have x0 : (w.alloc (.cells #[.int .i64 s0] 3 (0, 0))).cell? ⟨w.heap.size, 0, none⟩ = some (.int .i64 s0) := by rw [cell_of oA]; rfl
  unfold FoundTo at HF
  have HQ := hid (fun (w' : World) (q : Bool) (h1 : q = true → QuietP l (concP kd nb) wi p s0) (h2 : Keep Nil w w') => (show QuietTo w l (concP kd nb) wi p s0 (.returned (.tuple #[.bool q, .int .i64 0])) w' from ⟨q, rfl, h1, h2⟩))
  have HQP := hid (fun (h1 : ∀ q ∈ prs 1 2 l, concP kd nb p.val q.val = true → meetsP p.b s0 q.a q.b = false) (h2 : ∀ (i : Nat) (q : PrR), (prs 3 4 l)[i]? = some q → i ≠ wi → meetsP p.b s0 q.a q.b = false) => (show QuietP l (concP kd nb) wi p s0 from ⟨h1, h2⟩))
  obtain ⟨QP, hQP⟩ : ∃ QP, QP = QuietP l (concP kd nb) wi p s0 := ⟨_, rfl⟩
  obtain ⟨QT, hQT⟩ : ∃ QT, QT = QuietTo w l (concP kd nb) wi p s0 := ⟨_, rfl⟩
  rw [← hQP] at HQ HQP
  rw [← hQT] at HQ ⊢
  obtain ⟨A, hA⟩ : ∃ A, A = prs 1 2 l := ⟨_, rfl⟩
  obtain ⟨B, hB⟩ : ∃ B, B = prs 3 4 l := ⟨_, rfl⟩
  rw [← hA] at HF HQP HSV hA5
  rw [← hB] at HF HQP hp hwl hB5
  have HP := hid hp
  have KA := hid kA
  have OA := hid oA
  have i0 : (0 : Int) ≤ (wi : Int) := by omega
  have i1 : (wi : Int) < (B.length : Int) := by omega
  clear I1 I3 rd h kA oA hp hA hB hQP hQT hkd
  have HEV := hid (show engV kd nb = .agg #[.int .u8 kd, .int .i64 (engBk kd nb)] from rfl)
  generalize engBk kd nb = bk at *
  go_enter Tryz.func24, Tryz.ntmps24
  go_wp2_with fail
  refine HF.out.mono ?_
  rintro e w2 ⟨a, cp, b, cq, rfl, hra, hrb, hk2⟩
  rw [HEV.out] at HCC ⊢
  have o2 := hk2.at OA.out (fun h => h)
  have k2 := KA.out.trans hk2 (fun _ _ h => h)
  have OS := hid o2
  have K2 := hid k2
  have RA := hid hra
  have RB := hid hrb
  obtain ⟨bb, bo, bc, hve, hcl⟩ := Rd.cell hrb (by omega)
  simp only [Value.slice.injEq] at hve
  obtain ⟨rfl, -, rfl⟩ := hve
  have HCB := hid hcl
  have q : ∀ j u, p.cells[j]? = some u → (w2.alloc (.cells #[.int .u8 kd, .int .i64 bk] 117 (0, 0))).cell? ⟨bb, bo + wi * 4 + j, none⟩ = some u := fun j u hu => by rw [Nat.add_assoc]; exact ((Keep.refl Nil w2).alloc _).cell (hcl _ _ (prCells_at HP.out hu)) (fun h => h)
  have q0 := q 0 _ rfl
  have q1 := q 1 _ rfl
  have q2 := q 2 _ rfl
  have q3 := q 3 _ rfl
  rw [Nat.add_zero] at q0
  clear HF hra hrb hk2 o2 k2 x0 hcl q KA OA
  go_upto_region 5 with fail
  obtain ⟨W, hW⟩ : ∃ W, W = (w2.alloc (.cells #[.int .u8 kd, .int .i64 bk] 117 (0, 0))).alloc (.cells #[.int .i64 p.th, .int .u64 p.val, .int .i64 p.a, .int .i64 p.b] 76 (0, 0)) := ⟨_, rfl⟩
  rw [← hW]
  have oE : W.heap[w2.heap.size]? = some (.cells #[.int .u8 kd, .int .i64 bk] 117 (0, 0)) := by rw [hW]; exact alloc_old (heap_alloc_new w2 _) _
  have oW : W.heap[w2.heap.size + 1]? = some (.cells p.cells.toArray 76 (0, 0)) := by
    have := heap_alloc_new (w2.alloc (.cells #[.int .u8 kd, .int .i64 bk] 117 (0, 0))) (.cells #[.int .i64 p.th, .int .u64 p.val, .int .i64 p.a, .int .i64 p.b] 76 (0, 0))
    rw [World.size_alloc] at this
    rw [hW]; exact this
  have kW : Keep Nil w2 W := by rw [hW]; exact ((Keep.refl _ _).alloc _).alloc _
  have e0 : W.cell? ⟨w2.heap.size, 0, none⟩ = some (.int .u8 kd) := by rw [cell_of oE]; rfl
  have e1 : W.cell? ⟨w2.heap.size, 1, none⟩ = some (.int .i64 bk) := by rw [cell_of oE]; rfl
  have e2 : W.cell? ⟨w2.heap.size + 1, 1, none⟩ = some (.int .u64 p.val) := by rw [cell_of oW]; rfl
  have HLD := hid (fun (w5 : World) (b0 b1 b2 : Nat) (hc : ConcAt w5 kd nb p.val b0 b1 b2) (hk : Keep Nil W w5) => (show QLaid w5 kd nb A B (.slice a A.length cp) (.slice (some ⟨bb, bo, none⟩) B.length cq) p s0 b0 b1 b2 (w2.heap.size + 1) w.heap.size from
    ⟨hc, hk.at oW (fun h => h), hk.at (kW.at OS.out (fun h => h)) (fun h => h), rd_keep (rd_keep RA.out kW (fun _ _ h => h)) hk (fun _ _ h => h), rd_keep (rd_keep RB.out kW (fun _ _ h => h)) hk (fun _ _ h => h)⟩))
  have KW := hid (K2.out.trans kW (fun _ _ h => h))
  clear oE oW kW K2 RA RB OS HCB q0 q1 q2 q3 hW
  generalize w2.heap.size + 1 = bw at *
  generalize w.heap.size = bs at *
  go_wp2_with fail
  refine (HCC.out W).mono ?_
  rintro e w5 ⟨b0, b1, b2, rfl, hc, hk5⟩
  have HL := hid (HLD.out w5 b0 b1 b2 hc hk5)
  have K5 := hid (KW.out.trans hk5 (fun _ _ h => h))
  clear hc hk5 HLD KW HCC e0 e1 e2
  go_wp2
  go_loopw [48] (fun iv wz => ∃ i : Nat, i ≤ A.length ∧ iv = .int .i64 (i : Int) ∧ Hid (Keep Nil w5 wz ∧ ∀ (j : Nat) (q : PrR), j < i → A[j]? = some q → concP kd nb p.val q.val = true → meetsP p.b s0 q.a q.b = false)) (fun iv _ => A.length - (intOf iv).toNat)
  case atStart => exact ⟨0, Nat.zero_le _, rfl, hid ⟨Keep.refl _ _, fun j q hj => by omega⟩⟩
  case round =>
    obtain ⟨i, hi, rfl, HI⟩ := hrel
    by_cases hlt : i < A.length
    · have d1 : decide ((i : Int) < (A.length : Int)) = true := decide_eq_true (by omega)
      have wi' : IntKind.i64.wrap ((i : Int) + 1) = (i : Int) + 1 := by rw [IntKind.wrap_i64]; omega
      have j0 : (0 : Int) ≤ (i : Int) := by omega
      obtain ⟨x, hx⟩ : ∃ x, A[i]? = some x := ⟨_, List.getElem?_eq_getElem hlt⟩
      have HXV := hid (HSV.out x (List.mem_of_getElem? hx))
      have HL2 := hid (HL.out.keep HI.out.1)
      obtain ⟨ab, ao, ac, hve, hcl⟩ := Rd.cell HL2.out.ra (by omega)
      simp only [Value.slice.injEq] at hve
      obtain ⟨rfl, -, rfl⟩ := hve
      have q : ∀ j u, x.cells[j]? = some u → wr.cell? ⟨ab, ao + i * 4 + j, none⟩ = some u := fun j u hu => by rw [Nat.add_assoc]; exact hcl _ _ (prCells_at hx hu)
      have HX := hid hx
      obtain ⟨tx, vx, ax, bx⟩ := x
      have q0 : wr.cell? ⟨ab, ao + i * 4, none⟩ = some (.int .i64 tx) := q 0 _ rfl
      have q1 : wr.cell? ⟨ab, ao + i * 4 + 1, none⟩ = some (.int .u64 vx) := q 1 _ rfl
      have q2 : wr.cell? ⟨ab, ao + i * 4 + 2, none⟩ = some (.int .i64 ax) := q 2 _ rfl
      have q3 : wr.cell? ⟨ab, ao + i * 4 + 3, none⟩ = some (.int .i64 bx) := q 3 _ rfl
      clear q hcl hx
      go_upto_region 10 with fail
      obtain ⟨W6, hW6⟩ : ∃ W6, W6 = wr.alloc (.cells #[.int .i64 tx, .int .u64 vx, .int .i64 ax, .int .i64 bx] 81 (0, 0)) := ⟨_, rfl⟩
      rw [← hW6]
      have k6 : Keep Nil wr W6 := by rw [hW6]; exact (Keep.refl _ _).alloc _
      have o6 : W6.heap[wr.heap.size]? = some (.cells #[.int .i64 tx, .int .u64 vx, .int .i64 ax, .int .i64 bx] 81 (0, 0)) := by rw [hW6]; exact heap_alloc_new _ _
      have x1 : W6.cell? ⟨wr.heap.size, 1, none⟩ = some (.int .u64 vx) := by rw [cell_of o6]; rfl
      have O6 := hid o6
      have HL6 := hid (HL2.out.keep k6)
      have K6 := hid (HI.out.1.trans k6 (fun _ _ h => h))
      have HNO := hid HI.out.2
      have HC := hid (HCK.out W6 b0 b1 b2 HL6.out.c vx HXV.out.1 HXV.out.2)
      generalize wr.heap.size = xb at *
      clear hW6 k6 o6 q0 q1 q2 q3 HL2 HI
      cases hc : concP kd nb p.val vx with
      | false =>
        rw [hc] at HC
        have HN := hid (show ∀ (j : Nat) (q : PrR), j < i + 1 → A[j]? = some q → concP kd nb p.val q.val = true → meetsP p.b s0 q.a q.b = false from fun j q hj hq hcq => by
          by_cases e : j = i
          · subst e
            have := HX.out
            rw [hq] at this
            cases this
            rw [hc] at hcq; cases hcq
          · exact HNO.out j q (by omega) hq hcq)
        clear HNO hc
        go_wp2_with fail
        refine HC.out.mono ?_
        rintro e w7 ⟨rfl, hk7⟩
        have HK7 := hid (K6.out.trans hk7 (fun _ _ h => h))
        clear hk7 K6 HC
        go_wp2
        go_roundw
        case rel => exact ⟨i + 1, by omega, by go_num, hid ⟨HK7.out, HN.out⟩⟩
        case measure => simp [intOf]; omega
      | true =>
        rw [hc] at HC
        have HCT := hid hc
        clear hc
        go_wp2_with fail
        refine HC.out.mono ?_
        rintro e w7 ⟨rfl, hk7⟩
        have y2 : w7.cell? ⟨xb, 2, none⟩ = some (.int .i64 ax) := by rw [cell_of (hk7.at O6.out (fun h => h))]; rfl
        have y3 : w7.cell? ⟨xb, 3, none⟩ = some (.int .i64 bx) := by rw [cell_of (hk7.at O6.out (fun h => h))]; rfl
        have HL7 := hid (HL6.out.keep hk7)
        have K7 := hid (K6.out.trans hk7 (fun _ _ h => h))
        have HME := hid (stmeets_ok HL7.out.wt HL7.out.s ax bx)
        clear hk7 K6 HC HL6 O6 x1
        cases hme : meetsP p.b s0 ax bx with
        | false =>
          rw [hme] at HME
          have HN := hid (show ∀ (j : Nat) (q : PrR), j < i + 1 → A[j]? = some q → concP kd nb p.val q.val = true → meetsP p.b s0 q.a q.b = false from fun j q hj hq hcq => by
            by_cases e : j = i
            · subst e
              have := HX.out
              rw [hq] at this
              cases this
              exact hme
            · exact HNO.out j q (by omega) hq hcq)
          clear HNO hme
          go_wp2_with fail
          refine HME.out.mono ?_
          rintro e w8 ⟨rfl, hk8⟩
          have HK8 := hid (K7.out.trans hk8 (fun _ _ h => h))
          clear hk8 K7 HME y2 y3
          go_wp2
          go_roundw
          case rel => exact ⟨i + 1, by omega, by go_num, hid ⟨HK8.out, HN.out⟩⟩
          case measure => simp [intOf]; omega
        | true =>
          rw [hme] at HME
          clear hme HNO
          go_wp2_with fail
          refine HME.out.mono ?_
          rintro e w8 ⟨rfl, hk8⟩
          have FIN := hid (HQ.out w8 false (fun e => by cases e) ((K5.out.trans K7.out (fun _ _ h => h)).trans hk8 (fun _ _ h => h)))
          clear hk8 K7 HME y2 y3
          go_wp2
          exact FIN.out
    · obtain rfl : i = A.length := by omega
      have d1 : decide ((A.length : Int) < (A.length : Int)) = false := decide_eq_false (by omega)
      have HL6 := hid (HL.out.keep HI.out.1)
      have K6 := hid (K5.out.trans HI.out.1 (fun _ _ h => h))
      have HSEC := hid (show ∀ q ∈ A, concP kd nb p.val q.val = true → meetsP p.b s0 q.a q.b = false from fun q hq => by
        obtain ⟨j, hj⟩ := List.getElem?_of_mem hq
        exact HI.out.2 j q (List.getElem?_eq_some_iff.1 hj).1 hj)
      clear HI HL K5
      go_wp2
      clear HCK HSV
      go_loopw [67] (fun iv wz => ∃ i : Nat, i ≤ B.length ∧ iv = .int .i64 (i : Int) ∧ Hid (Keep Nil wr wz ∧ ∀ (j : Nat) (q : PrR), j < i → B[j]? = some q → j ≠ wi → meetsP p.b s0 q.a q.b = false)) (fun iv _ => B.length - (intOf iv).toNat)
      case atStart => exact ⟨0, Nat.zero_le _, rfl, hid ⟨Keep.refl _ _, fun j q hj => by omega⟩⟩
      case round =>
        obtain ⟨i, hi, rfl, HI⟩ := hrel
        by_cases hlt : i < B.length
        · have d1 : decide ((i : Int) < (B.length : Int)) = true := decide_eq_true (by omega)
          have wi' : IntKind.i64.wrap ((i : Int) + 1) = (i : Int) + 1 := by rw [IntKind.wrap_i64]; omega
          have j0 : (0 : Int) ≤ (i : Int) := by omega
          obtain ⟨x, hx⟩ : ∃ x, B[i]? = some x := ⟨_, List.getElem?_eq_getElem hlt⟩
          have HL2 := hid (HL6.out.keep HI.out.1)
          obtain ⟨ab, ao, ac, hve, hcl⟩ := Rd.cell HL2.out.rb (by omega)
          simp only [Value.slice.injEq, Option.some.injEq, Addr.mk.injEq, and_true, true_and] at hve
          obtain ⟨⟨rfl, rfl⟩, rfl⟩ := hve
          have q : ∀ j u, x.cells[j]? = some u → wr.cell? ⟨bb, bo + i * 4 + j, none⟩ = some u := fun j u hu => by rw [Nat.add_assoc]; exact hcl _ _ (prCells_at hx hu)
          have HX := hid hx
          obtain ⟨tx, vx, ax, bx⟩ := x
          have q0 : wr.cell? ⟨bb, bo + i * 4, none⟩ = some (.int .i64 tx) := q 0 _ rfl
          have q1 : wr.cell? ⟨bb, bo + i * 4 + 1, none⟩ = some (.int .u64 vx) := q 1 _ rfl
          have q2 : wr.cell? ⟨bb, bo + i * 4 + 2, none⟩ = some (.int .i64 ax) := q 2 _ rfl
          have q3 : wr.cell? ⟨bb, bo + i * 4 + 3, none⟩ = some (.int .i64 bx) := q 3 _ rfl
          clear q hcl hx
          go_upto_region 16 with fail
          obtain ⟨W6, hW6⟩ : ∃ W6, W6 = wr.alloc (.cells #[.int .i64 tx, .int .u64 vx, .int .i64 ax, .int .i64 bx] 76 (0, 0)) := ⟨_, rfl⟩
          rw [← hW6]
          have k6 : Keep Nil wr W6 := by rw [hW6]; exact (Keep.refl _ _).alloc _
          have o6 : W6.heap[wr.heap.size]? = some (.cells #[.int .i64 tx, .int .u64 vx, .int .i64 ax, .int .i64 bx] 76 (0, 0)) := by rw [hW6]; exact heap_alloc_new _ _
          have y2 : W6.cell? ⟨wr.heap.size, 2, none⟩ = some (.int .i64 ax) := by rw [cell_of o6]; rfl
          have y3 : W6.cell? ⟨wr.heap.size, 3, none⟩ = some (.int .i64 bx) := by rw [cell_of o6]; rfl
          have HL7 := hid (HL2.out.keep k6)
          have KI := hid (HI.out.1.trans k6 (fun _ _ h => h))
          have HNO := hid HI.out.2
          have HME := hid (stmeets_ok HL7.out.wt HL7.out.s ax bx)
          generalize wr.heap.size = xb at *
          clear hW6 k6 o6 q0 q1 q2 q3 HL2 HI
          by_cases hiw : i = wi
          · have b1' : ((i : Int) != (wi : Int)) = false := by simp [hiw]
            have HN := hid (show ∀ (j : Nat) (q : PrR), j < i + 1 → B[j]? = some q → j ≠ wi → meetsP p.b s0 q.a q.b = false from fun j q hj hq hne => HNO.out j q (by omega) hq hne)
            clear HNO HME hiw y2 y3
            go_wp2
            go_roundw
            case rel => exact ⟨i + 1, by omega, by go_num, hid ⟨KI.out, HN.out⟩⟩
            case measure => simp [intOf]; omega
          · have b1' : ((i : Int) != (wi : Int)) = true := by simp; omega
            clear hiw
            cases hme : meetsP p.b s0 ax bx with
            | false =>
              rw [hme] at HME
              have HN := hid (show ∀ (j : Nat) (q : PrR), j < i + 1 → B[j]? = some q → j ≠ wi → meetsP p.b s0 q.a q.b = false from fun j q hj hq hcq => by
                by_cases e : j = i
                · subst e
                  have := HX.out
                  rw [hq] at this
                  cases this
                  exact hme
                · exact HNO.out j q (by omega) hq hcq)
              clear HNO hme
              go_wp2_with fail
              refine HME.out.mono ?_
              rintro e w8 ⟨rfl, hk8⟩
              have HK8 := hid (KI.out.trans hk8 (fun _ _ h => h))
              clear hk8 KI HME y2 y3
              go_wp2
              go_roundw
              case rel => exact ⟨i + 1, by omega, by go_num, hid ⟨HK8.out, HN.out⟩⟩
              case measure => simp [intOf]; omega
            | true =>
              rw [hme] at HME
              clear hme HNO
              go_wp2_with fail
              refine HME.out.mono ?_
              rintro e w8 ⟨rfl, hk8⟩
              have FIN := hid (HQ.out w8 false (fun e => by cases e) ((K6.out.trans KI.out (fun _ _ h => h)).trans hk8 (fun _ _ h => h)))
              clear hk8 KI HME y2 y3
              go_wp2
              first | exact FIN.out | (go_ret2; exact FIN.out)
        · obtain rfl : i = B.length := by omega
          have d1 : decide ((B.length : Int) < (B.length : Int)) = false := decide_eq_false (by omega)
          have FIN := hid (HQ.out wr true (fun _ => HQP.out HSEC.out (fun j q hq hne => HI.out.2 j q (List.getElem?_eq_some_iff.1 hq).1 hq hne)) (K6.out.trans HI.out.1 (fun _ _ h => h)))
          clear HI
          go_wp2
          first | exact FIN.out | (go_ret2; exact FIN.out)
end
end Go.Proofs.YtldjlcdccnnogaaGreat

/-! bounded: the walk. -/
set_option linter.unusedVariables false
set_option linter.unusedSimpArgs false
namespace Go.Lf
/-- What bounded needs of events and of the threads of the steps. -/
structure BdF (l : List EvR) (who : List Int) (conc : Int → Int → Bool) (bnd : Int → Nat) : Prop where
  good : EvGood l
  old : ∀ (wi : Nat) (p : PrR), (prs 3 4 l)[wi]? = some p → p.a < who.length ∧ p.b < who.length
  law : ∀ (wi : Nat) (p : PrR) (s0 : Nat), (prs 3 4 l)[wi]? = some p → p.a ≤ s0 → s0 ≤ wEnd p who.length → QuietP l conc wi p s0 → owns who p.th s0 (wEnd p who.length) ≤ bnd p.val
theorem BdF.of {n : Nat} {bnd : Int → Nat} {conc : Int → Int → Bool} {s : RgS} {who : List Int} (hG : RgG n bnd s) (h : WInv n bnd conc s who) : BdF s.l who conc bnd := by
  refine ⟨hG.e.good, fun wi p hp => ?_, fun wi p s0 hp ha he hq => ?_⟩
  · rw [h.len]; exact pair_old hG.e (.inr ⟨rfl, rfl⟩) hp
  · rw [h.len] at he ⊢; exact quiet_law hG h hp ha he hq
/-- The end of the wait that an event begins. -/
def EndOk (l : List EvR) (m : Nat) (i : Nat) (x : EvR) (en : Nat) : Prop := ∃ p : PrR, (prs 3 4 l)[wcn l i]? = some p ∧ p.th = x.th ∧ p.val = x.val ∧ p.a = x.step ∧ wEnd p m = en
theorem EndOk.shut {l : List EvR} {m i k : Nat} {x y : EvR} (h : EvGood l) (hx : l[i]? = some x) (kx : x.kind = 3) (hik : i < k) (hy : l[k]? = some y) (ky : y.kind = 4) (ht : y.th = x.th) (hf : ∀ (j : Nat) (z : EvR), i < j → j < k → l[j]? = some z → ¬ (z.kind = 4 ∧ z.th = x.th)) : EndOk l m i x (y.step + 1).toNat := by
  have := (h.at hy).1.s0
  exact ⟨_, wait_shut h hx kx hik hy ky ht hf, rfl, rfl, rfl, if_neg (by show ¬ y.step < 0; omega)⟩
theorem EndOk.open {l : List EvR} {m i : Nat} {x : EvR} (h : EvGood l) (hx : l[i]? = some x) (kx : x.kind = 3) (hf : ∀ (j : Nat) (z : EvR), i < j → j < l.length → l[j]? = some z → ¬ (z.kind = 4 ∧ z.th = x.th)) : EndOk l m i x m :=
  ⟨_, wait_open h hx kx hf, rfl, rfl, rfl, if_pos (by show (-1 : Int) < 0; omega)⟩
theorem EndOk.facts {l : List EvR} {who : List Int} {conc : Int → Int → Bool} {bnd : Int → Nat} (hB : BdF l who conc bnd) {i en m : Nat} {x : EvR} (hm : m = who.length) (h : EndOk l m i x en) : 0 ≤ x.step ∧ x.step ≤ en ∧ en ≤ m := by
  subst hm
  obtain ⟨p, hp, -, -, h3, h4⟩ := h
  have hi := PrInv.of (bk := 3) (ek := 4) (.inr ⟨rfl, rfl⟩) hB.good
  have h5 := hB.old _ p hp
  have h6 := hi.bd _ p hp
  have h7 := hi.cl _ p hp
  unfold wEnd at h4
  rcases h7 with ⟨h7, -⟩ | ⟨h7, h8⟩
  · rw [if_pos (by omega)] at h4; omega
  · rw [if_neg (by omega)] at h4; omega
theorem EndOk.law {l : List EvR} {who : List Int} {conc : Int → Int → Bool} {bnd : Int → Nat} (hB : BdF l who conc bnd) {i en m : Nat} {x : EvR} (hm : m = who.length) (h : EndOk l m i x en) : ∃ p : PrR, (prs 3 4 l)[wcn l i]? = some p ∧ p.a = x.step ∧ p.val = x.val ∧ ∀ s0 : Nat, x.step ≤ s0 → s0 ≤ en → QuietP l conc (wcn l i) p s0 → owns who x.th s0 en ≤ bnd x.val := by
  subst hm
  obtain ⟨p, hp, h1, h2, h3, h4⟩ := h
  refine ⟨p, hp, h3, h2, fun s0 ha he hq => ?_⟩
  have := hB.law _ p s0 hp (by omega) (by omega) hq
  rw [h1, h2, h4] at this
  exact this
theorem wait_val {l : List EvR} (h : EvGood l) {i : Nat} {x : EvR} (hx : l[i]? = some x) (kx : x.kind = 3) : 0 < x.val ∧ x.val < 18446744073709551616 := by
  obtain ⟨hw, -, ho, -⟩ := h.at hx
  have := hw.v0
  have := hw.v1
  rcases ho with ⟨h3, -⟩ | ⟨h3, -⟩ | ⟨-, -, h3⟩ | ⟨h3, -⟩ <;> omega
end Go.Lf
namespace Go.Proofs.YtldjlcdccnnogaaGreat
open Go.RowKit Go.Lf
section
variable {w w' : World} {kd : Int} {nb : Nat}
set_option maxRecDepth 100000 in
set_option maxHeartbeats 4000000 in
theorem bounded_ok (hkd : kd = 1 ∨ kd = 2 ∨ kd = 3) (hb0 : 1 ≤ nb) (hb1 : nb ≤ 4) {n : Nat} (n0 : 1 ≤ n) (n6 : n ≤ 6) (l : List EvR) (who : List Int) (hB : BdF l who (concP kd nb) (bndP kd n nb)) (v : Value) (rd : Rd w 4 v l.length (evCells l)) (hm : l.length ≤ 100000) (u : Value) (rdw : Rd w 1 u who.length (i64s who)) (hwl : who.length ≤ 100000) :
    Calls Tryz.prog 11 #[v, u, .int .u8 kd, .int .i64 n, .int .i64 (engBk kd nb)] w fun e w' => e = .returned (.bool true) ∧ Keep Nil w w' := by
  have HB := hid hB
  obtain ⟨pa, pc, hv, -⟩ := id rd
  obtain ⟨qa, qc, hu, -⟩ := id rdw
  subst hv hu
  have HRD := hid rd
  have HRW := hid rdw
  have HBN := hid (fun (W : World) (set : Int) (s0 : 0 < set) (s1 : set < 18446744073709551616) => stbound_ok (n := n) hkd hb0 hb1 n0 n6 s0 s1 W)
  have HQT := hid (fun (W : World) (hk : Keep Nil w W) (wi : Nat) (p : PrR) (hp : (prs 3 4 l)[wi]? = some p) (s0 : Int) (hs : p.a ≤ s0) => stquiet_ok hkd hb0 hb1 l hB.good (.slice pa l.length pc) (rd_keep rd hk (fun _ _ h => h)) hm hp hs)
  have HKK := hid (Keep.refl Nil w)
  have NL := hid (show ∃ m, m = who.length from ⟨_, rfl⟩)
  obtain ⟨m, hmw⟩ := NL.out
  rw [← hmw] at HRW hwl ⊢
  have HMW := hid hmw
  have HBK := hid hB.good
  clear hB rd rdw hkd hmw NL
  generalize engBk kd nb = bk at *
  go_enter Tryz.func11, Tryz.ntmps11
  go_wp2
  go_loopw [11, 12] (fun nv iv wz => ∃ i : Nat, i ≤ l.length ∧ iv = .int .i64 (i : Int) ∧ nv = .int .i64 ((wcn l i : Nat) : Int) ∧ Keep Nil w wz) (fun _ iv _ => l.length - (intOf iv).toNat)
  case atStart => exact ⟨0, Nat.zero_le _, rfl, rfl, HKK.out⟩
  case round =>
    obtain ⟨i, hi, rfl, rfl, hkz⟩ := hrel
    have HKZ := hid hkz
    clear hkz
    by_cases hil : i < l.length
    · have e2 : decide ((i : Int) < (l.length : Int)) = true := decide_eq_true (by omega)
      have wi2 : IntKind.i64.wrap ((i : Int) + 1) = (i : Int) + 1 := by rw [IntKind.wrap_i64]; omega
      have i02 : (0 : Int) ≤ (i : Int) := by omega
      obtain ⟨x, hx⟩ : ∃ x, l[i]? = some x := ⟨_, List.getElem?_eq_getElem hil⟩
      obtain ⟨vb, vo, vc', hve, hcl⟩ := Rd.cell HRD.out (by omega)
      simp only [Value.slice.injEq] at hve
      obtain ⟨rfl, -, rfl⟩ := hve
      have CL := hid (show ∀ (W : World), Keep Nil w W → ∀ (k j : Nat) (y : EvR) (u : Value), l[k]? = some y → y.cells[j]? = some u → W.cell? ⟨vb, vo + k * 4 + j, none⟩ = some u from fun W hk k j y u hy hu => by rw [Nat.add_assoc]; exact hk.cell (hcl _ _ (evCells_at hy hu)) (fun h => h))
      have q2 : wr.cell? ⟨vb, vo + i * 4 + 2, none⟩ = some (.int .u8 x.kind) := CL.out wr HKZ.out i 2 x _ hx rfl
      have HX := hid hx
      clear hcl hx
      by_cases h3 : x.kind = 3
      · have b3 : (x.kind != 3) = false := by simp [h3]
        have wn : IntKind.i64.wrap (((wcn l i : Nat) : Int) + 1) = ((wcn l i : Nat) : Int) + 1 := by
          have := wcn_le l i
          rw [IntKind.wrap_i64]; omega
        have HN := hid (show ((wcn l (i + 1) : Nat) : Int) = ((wcn l i : Nat) : Int) + 1 by rw [wcn_yes HX.out h3]; rfl)
        have H3 := hid h3
        have HVAL := hid (wait_val HBK.out HX.out h3)
        clear h3
        go_wp2
        go_loopw [14, 15] (fun ev kv wz => ∃ k : Nat, i < k ∧ k ≤ l.length ∧ ev = .int .i64 (m : Int) ∧ kv = .int .i64 (k : Int) ∧ Keep Nil w wz ∧ Hid (∀ (j : Nat) (y : EvR), i < j → j < k → l[j]? = some y → ¬ (y.kind = 4 ∧ y.th = x.th))) (fun _ kv _ => l.length - (intOf kv).toNat)
        case atStart => exact ⟨i + 1, by omega, by omega, rfl, by go_num, HKZ.out, hid (fun j y h1 h2 => by omega)⟩
        case round =>
          obtain ⟨k, hik, hkl, rfl, rfl, hkz, HF⟩ := hrel
          have HKW := hid hkz
          clear hkz q2
          by_cases hkll : k < l.length
          · have e3 : decide ((k : Int) < (l.length : Int)) = true := decide_eq_true (by omega)
            have wk : IntKind.i64.wrap ((k : Int) + 1) = (k : Int) + 1 := by rw [IntKind.wrap_i64]; omega
            have k02 : (0 : Int) ≤ (k : Int) := by omega
            obtain ⟨y, hy⟩ : ∃ y, l[k]? = some y := ⟨_, List.getElem?_eq_getElem hkll⟩
            have r2 : wr.cell? ⟨vb, vo + k * 4 + 2, none⟩ = some (.int .u8 y.kind) := CL.out wr HKW.out k 2 y _ hy rfl
            have r1 : wr.cell? ⟨vb, vo + k * 4 + 1, none⟩ = some (.int .i64 y.th) := CL.out wr HKW.out k 1 y _ hy rfl
            have p1 : wr.cell? ⟨vb, vo + i * 4 + 1, none⟩ = some (.int .i64 x.th) := CL.out wr HKW.out i 1 x _ HX.out rfl
            have HY := hid hy
            clear hy
            by_cases h4 : y.kind = 4 ∧ y.th = x.th
            · have b4 : (y.kind == 4) = true := by simp [h4.1]
              have b5 : (y.th == x.th) = true := by simp [h4.2]
              have ys0 := (HBK.out.at HY.out).1.s0
              have ys1 := (HBK.out.at HY.out).1.s1
              obtain ⟨en, hen⟩ : ∃ en : Nat, en = (y.step + 1).toNat := ⟨_, rfl⟩
              have wy : IntKind.i64.wrap (y.step + 1) = (en : Int) := by rw [IntKind.wrap_i64]; omega
              have HEN := hid (show EndOk l m i x en from by rw [hen]; exact EndOk.shut HBK.out HX.out H3.out hik HY.out h4.1 h4.2 HF.out)
              clear h4 ys0 ys1 hen HF
              go_wp2
              go_quiet (fail)
              obtain ⟨W, hW⟩ : ∃ W, W = wr.drewN nq := ⟨_, rfl⟩
              rw [← hW]
              have HKV := hid (show Keep Nil w W by rw [hW]; exact HKW.out.trans ((Keep.refl Nil wr).drewN nq) (fun _ _ e => e))
              have s0 : W.cell? ⟨vb, vo + k * 4, none⟩ = some (.int .i64 y.step) := CL.out W HKV.out k 0 y _ HY.out rfl
              clear hW r1 r2 p1 HKW
              have HFA := hid (EndOk.facts HB.out HMW.out HEN.out)
              obtain ⟨fa0, fa1, fa2⟩ := HFA.out
              have c1 : decide (x.step < 0) = false := decide_eq_false (by omega)
              have c2 : decide (x.step > (en : Int)) = false := decide_eq_false (by omega)
              have c2' : decide ((en : Int) < x.step) = false := decide_eq_false (by omega)
              have c3 : decide ((en : Int) > (m : Int)) = false := decide_eq_false (by omega)
              have c3' : decide ((m : Int) < (en : Int)) = false := decide_eq_false (by omega)
              have c3'' : decide (m < en) = false := decide_eq_false (by omega)
              have wen : IntKind.i64.wrap ((en : Int) - 1) = (en : Int) - 1 := by rw [IntKind.wrap_i64]; omega
              have t0 : W.cell? ⟨vb, vo + i * 4, none⟩ = some (.int .i64 x.step) := CL.out W HKV.out i 0 x _ HX.out rfl
              have t3 : W.cell? ⟨vb, vo + i * 4 + 3, none⟩ = some (.int .u64 x.val) := CL.out W HKV.out i 3 x _ HX.out rfl
              obtain ⟨mo, hmo⟩ : ∃ mo, mo = bndP kd n nb x.val := ⟨_, rfl⟩
              have HBO := hid (HBN.out W x.val HVAL.out.1 HVAL.out.2)
              rw [← hmo] at HBO
              have HMO := hid hmo
              have FA := hid (And.intro fa0 (And.intro fa1 fa2))
              clear hmo fa0 fa1 fa2 HFA
              go_wp2_with fail
              refine HBO.out.mono ?_
              rintro e w5 ⟨rfl, hk5⟩
              have HK5 := hid (HKV.out.trans hk5 (fun _ _ e => e))
              clear hk5 HBO t0 t3 c1 c2 c2' c3 c3' c3''
              go_wp2
              go_loopw [18, 19] (fun ov sv wz => ∃ (j : Nat) (c : Int) (o : Nat), x.step ≤ j ∧ j ≤ en ∧ c = (j : Int) - 1 ∧ sv = .int .i64 c ∧ ov = .int .i64 (o : Int) ∧ o = owns who x.th j en ∧ o ≤ mo ∧ Keep Nil w wz) (fun _ sv _ => (intOf sv + 1).toNat)
              case atStart => exact ⟨en, _, 0, by have := FA.out; omega, Nat.le_refl _, rfl, by go_num, rfl, (owns_end _ _ _).symm, Nat.zero_le _, HK5.out⟩
              case round =>
                obtain ⟨j, c, o, hj0, hj1, hc, rfl, rfl, ho, hom, hkz⟩ := hrel
                have HKJ := hid hkz
                have HO := hid ho
                have t0 : wr.cell? ⟨vb, vo + i * 4, none⟩ = some (.int .i64 x.step) := CL.out wr HKJ.out i 0 x _ HX.out rfl
                have t1 : wr.cell? ⟨vb, vo + i * 4 + 1, none⟩ = some (.int .i64 x.th) := CL.out wr HKJ.out i 1 x _ HX.out rfl
                clear hkz ho
                by_cases hjx : x.step < j
                · obtain ⟨g, rfl⟩ : ∃ g, j = g + 1 := ⟨j - 1, by have := FA.out; omega⟩
                  obtain rfl : c = (g : Int) := by omega
                  clear hc
                  have e4 : decide ((g : Int) ≥ x.step) = true := decide_eq_true (by omega)
                  have e4' : decide (x.step ≤ (g : Int)) = true := decide_eq_true (by omega)
                  have hgm : g < m := by have := FA.out; omega
                  have g0 : (0 : Int) ≤ (g : Int) := by omega
                  have g1 : decide ((m : Int) ≤ (g : Int)) = false := decide_eq_false (by omega)
                  have g2 : decide (m ≤ g) = false := decide_eq_false (by omega)
                  have wg : IntKind.i64.wrap ((g : Int) - 1) = (g : Int) - 1 := by rw [IntKind.wrap_i64]; omega
                  obtain ⟨y, hy⟩ : ∃ y, who[g]? = some y := ⟨_, List.getElem?_eq_getElem (by rw [← HMW.out]; exact hgm)⟩
                  obtain ⟨ub, uo, uc', hue, hul⟩ := Rd.cell HRW.out (by omega)
                  simp only [Value.slice.injEq] at hue
                  obtain ⟨rfl, -, rfl⟩ := hue
                  have u0 : wr.cell? ⟨ub, uo + g, none⟩ = some (.int .i64 y) := HKJ.out.cell (hul g _ (i64s_at hy)) (fun h => h)
                  obtain ⟨o2, ho2⟩ : ∃ o2, o2 = owns who x.th g en := ⟨_, rfl⟩
                  have hdown := owns_down (who := who) (th := x.th) (s := g) (e := en) (by omega) hy
                  rw [← HO.out, ← ho2] at hdown
                  have hol : o ≤ 100000 := by have := owns_le who x.th (g + 1) en; rw [← HO.out] at this; have := FA.out; omega
                  have HO2 := hid ho2
                  have HJ := hid (And.intro hj0 (And.intro hj1 hjx))
                  have HLW := hid (EndOk.law HB.out HMW.out HEN.out)
                  clear hul hy ho2 hj0 hj1 hjx HO
                  by_cases hyx : y = x.th
                  · have b6 : (y == x.th) = true := by simp [hyx]
                    rw [if_pos hyx] at hdown
                    have wo : IntKind.i64.wrap ((o : Int) + 1) = (o2 : Int) := by rw [IntKind.wrap_i64]; omega
                    by_cases hle : o2 ≤ mo
                    · have l1 : decide ((o2 : Int) ≤ (mo : Int)) = true := decide_eq_true (by omega)
                      have l2 : decide (o2 ≤ mo) = true := decide_eq_true (by omega)
                      clear hyx hdown hom
                      go_wp2
                      go_quiet (fail)
                      have HKX := hid (HKJ.out.trans ((Keep.refl Nil wr).drewN nq) (fun _ _ e => e))
                      go_wp2
                      go_roundw
                      case rel => exact ⟨g, _, o2, by have := HJ.out; omega, by have := HJ.out; omega, rfl, by go_num, by go_num, HO2.out, hle, HKX.out⟩
                      case measure => first | (simp [intOf]; done) | (simp [intOf]; omega)
                    · have l1 : decide ((o2 : Int) ≤ (mo : Int)) = false := decide_eq_false (by omega)
                      have l2 : decide (o2 ≤ mo) = false := decide_eq_false (by omega)
                      have HLE := hid hle
                      clear hyx hdown hom hle
                      go_wp2
                      go_quiet (fail)
                      obtain ⟨V, hV⟩ : ∃ V, V = wr.drewN nq := ⟨_, rfl⟩
                      rw [← hV]
                      have HKX := hid (show Keep Nil w V by rw [hV]; exact HKJ.out.trans ((Keep.refl Nil wr).drewN nq) (fun _ _ e => e))
                      obtain ⟨p, hp, hpa, hpv, hlaw⟩ := HLW.out
                      have HQ := hid (HQT.out V HKX.out (wcn l i) p hp (g : Int) (by have := HJ.out; omega))
                      have HLA := hid (show ¬ QuietP l (concP kd nb) (wcn l i) p (g : Int) from fun q => HLE.out (by rw [HO2.out, HMO.out]; exact hlaw g (by have := HJ.out; omega) (by have := HJ.out; omega) q))
                      clear hV HLW hp hpa hpv hlaw t0 t1 u0
                      go_wp2_with fail
                      refine HQ.out.mono ?_
                      rintro e w8 ⟨q, rfl, hq, hk8⟩
                      have HK8 := hid (HKX.out.trans hk8 (fun _ _ e => e))
                      cases q with
                      | true => exact absurd (hq rfl) HLA.out
                      | false =>
                        clear hq hk8 HQ
                        go_wp2
                        go_roundw
                        case rel => exact ⟨i + 1, by omega, by go_num, by rw [HN.out], HK8.out⟩
                        case measure => first | (simp [intOf]; done) | (simp [intOf]; omega)
                  · have b6 : (y == x.th) = false := by simp [hyx]
                    rw [if_neg hyx, Nat.add_zero] at hdown
                    have l1 : decide ((o : Int) ≤ (mo : Int)) = true := decide_eq_true (by omega)
                    have l2 : decide (o ≤ mo) = true := decide_eq_true (by omega)
                    have HD := hid hdown
                    clear hyx hdown
                    go_wp2
                    go_quiet (fail)
                    have HKX := hid (HKJ.out.trans ((Keep.refl Nil wr).drewN nq) (fun _ _ e => e))
                    go_wp2
                    go_roundw
                    case rel => exact ⟨g, _, o, by have := HJ.out; omega, by have := HJ.out; omega, rfl, by go_num, rfl, by rw [← HD.out]; exact HO2.out, hom, HKX.out⟩
                    case measure => first | (simp [intOf]; done) | (simp [intOf]; omega)
                · have e4 : decide (c ≥ x.step) = false := decide_eq_false (by omega)
                  have e4' : decide (x.step ≤ c) = false := decide_eq_false (by omega)
                  clear hjx hj0 hj1 hc
                  go_wp2
                  go_roundw
                  case rel => exact ⟨i + 1, by omega, by go_num, by rw [HN.out], HKJ.out⟩
                  case measure => first | (simp [intOf]; done) | (simp [intOf]; omega)
            · have HF2 := hid (show ∀ (j : Nat) (z : EvR), i < j → j < k + 1 → l[j]? = some z → ¬ (z.kind = 4 ∧ z.th = x.th) from fun j z h1 h2 h5 => by
                by_cases e : j = k
                · subst e; rw [HY.out] at h5; cases h5; exact h4
                · exact HF.out j z h1 (by omega) h5)
              by_cases h5 : y.kind = 4
              · have b4 : (y.kind == 4) = true := by simp [h5]
                have b5 : (y.th == x.th) = false := by simp; exact fun e => h4 ⟨h5, e⟩
                clear h4 h5
                go_wp2
                go_quiet (fail)
                have HKX := hid (HKW.out.trans ((Keep.refl Nil wr).drewN nq) (fun _ _ e => e))
                go_wp2
                go_roundw
                case rel => exact ⟨k + 1, by omega, by omega, rfl, by go_num, HKX.out, HF2⟩
                case measure => first | (simp [intOf]; done) | (simp [intOf]; omega)
              · have b4 : (y.kind == 4) = false := by simp [h5]
                clear h4 h5
                go_wp2
                go_quiet (fail)
                have HKX := hid (HKW.out.trans ((Keep.refl Nil wr).drewN nq) (fun _ _ e => e))
                go_wp2
                go_roundw
                case rel => exact ⟨k + 1, by omega, by omega, rfl, by go_num, HKX.out, HF2⟩
                case measure => first | (simp [intOf]; done) | (simp [intOf]; omega)
          · obtain rfl : k = l.length := by omega
            have e3 : decide ((l.length : Int) < (l.length : Int)) = false := decide_eq_false (by omega)
            obtain ⟨en, hen⟩ : ∃ en : Nat, en = m := ⟨_, rfl⟩
            have HEN := hid (show EndOk l m i x m from EndOk.open HBK.out HX.out H3.out HF.out)
            have HKV := hid HKW.out
            clear HKW HF hen en
            have HFA := hid (EndOk.facts HB.out HMW.out HEN.out)
            obtain ⟨fa0, fa1, fa2⟩ := HFA.out
            have c1 : decide (x.step < 0) = false := decide_eq_false (by omega)
            have c2 : decide (x.step > (m : Int)) = false := decide_eq_false (by omega)
            have c2' : decide ((m : Int) < x.step) = false := decide_eq_false (by omega)
            have c3 : decide ((m : Int) > (m : Int)) = false := decide_eq_false (by omega)
            have c3' : decide ((m : Int) < (m : Int)) = false := decide_eq_false (by omega)
            have c3'' : decide (m < m) = false := decide_eq_false (by omega)
            have wen : IntKind.i64.wrap ((m : Int) - 1) = (m : Int) - 1 := by rw [IntKind.wrap_i64]; omega
            have t0 : wr.cell? ⟨vb, vo + i * 4, none⟩ = some (.int .i64 x.step) := CL.out wr HKV.out i 0 x _ HX.out rfl
            have t3 : wr.cell? ⟨vb, vo + i * 4 + 3, none⟩ = some (.int .u64 x.val) := CL.out wr HKV.out i 3 x _ HX.out rfl
            obtain ⟨mo, hmo⟩ : ∃ mo, mo = bndP kd n nb x.val := ⟨_, rfl⟩
            have HBO := hid (HBN.out wr x.val HVAL.out.1 HVAL.out.2)
            rw [← hmo] at HBO
            have HMO := hid hmo
            have FA := hid (And.intro fa0 (And.intro fa1 fa2))
            clear hmo fa0 fa1 fa2 HFA
            go_wp2_with fail
            refine HBO.out.mono ?_
            rintro e w5 ⟨rfl, hk5⟩
            have HK5 := hid (HKV.out.trans hk5 (fun _ _ e => e))
            clear hk5 HBO t0 t3 c1 c2 c2' c3 c3' c3''
            go_wp2
            go_loopw [18, 19] (fun ov sv wz => ∃ (j : Nat) (c : Int) (o : Nat), x.step ≤ j ∧ j ≤ m ∧ c = (j : Int) - 1 ∧ sv = .int .i64 c ∧ ov = .int .i64 (o : Int) ∧ o = owns who x.th j m ∧ o ≤ mo ∧ Keep Nil w wz) (fun _ sv _ => (intOf sv + 1).toNat)
            case atStart => exact ⟨m, _, 0, by have := FA.out; omega, Nat.le_refl _, rfl, by go_num, rfl, (owns_end _ _ _).symm, Nat.zero_le _, HK5.out⟩
            case round =>
              obtain ⟨j, c, o, hj0, hj1, hc, rfl, rfl, ho, hom, hkz⟩ := hrel
              have HKJ := hid hkz
              have HO := hid ho
              have t0 : wr.cell? ⟨vb, vo + i * 4, none⟩ = some (.int .i64 x.step) := CL.out wr HKJ.out i 0 x _ HX.out rfl
              have t1 : wr.cell? ⟨vb, vo + i * 4 + 1, none⟩ = some (.int .i64 x.th) := CL.out wr HKJ.out i 1 x _ HX.out rfl
              clear hkz ho
              by_cases hjx : x.step < j
              · obtain ⟨g, rfl⟩ : ∃ g, j = g + 1 := ⟨j - 1, by have := FA.out; omega⟩
                obtain rfl : c = (g : Int) := by omega
                clear hc
                have e4 : decide ((g : Int) ≥ x.step) = true := decide_eq_true (by omega)
                have e4' : decide (x.step ≤ (g : Int)) = true := decide_eq_true (by omega)
                have hgm : g < m := by have := FA.out; omega
                have g0 : (0 : Int) ≤ (g : Int) := by omega
                have g1 : decide ((m : Int) ≤ (g : Int)) = false := decide_eq_false (by omega)
                have g2 : decide (m ≤ g) = false := decide_eq_false (by omega)
                have wg : IntKind.i64.wrap ((g : Int) - 1) = (g : Int) - 1 := by rw [IntKind.wrap_i64]; omega
                obtain ⟨y, hy⟩ : ∃ y, who[g]? = some y := ⟨_, List.getElem?_eq_getElem (by rw [← HMW.out]; exact hgm)⟩
                obtain ⟨ub, uo, uc', hue, hul⟩ := Rd.cell HRW.out (by omega)
                simp only [Value.slice.injEq] at hue
                obtain ⟨rfl, -, rfl⟩ := hue
                have u0 : wr.cell? ⟨ub, uo + g, none⟩ = some (.int .i64 y) := HKJ.out.cell (hul g _ (i64s_at hy)) (fun h => h)
                obtain ⟨o2, ho2⟩ : ∃ o2, o2 = owns who x.th g m := ⟨_, rfl⟩
                have hdown := owns_down (who := who) (th := x.th) (s := g) (e := m) (by omega) hy
                rw [← HO.out, ← ho2] at hdown
                have hol : o ≤ 100000 := by have := owns_le who x.th (g + 1) m; rw [← HO.out] at this; have := FA.out; omega
                have HO2 := hid ho2
                have HJ := hid (And.intro hj0 (And.intro hj1 hjx))
                have HLW := hid (EndOk.law HB.out HMW.out HEN.out)
                clear hul hy ho2 hj0 hj1 hjx HO
                by_cases hyx : y = x.th
                · have b6 : (y == x.th) = true := by simp [hyx]
                  rw [if_pos hyx] at hdown
                  have wo : IntKind.i64.wrap ((o : Int) + 1) = (o2 : Int) := by rw [IntKind.wrap_i64]; omega
                  by_cases hle : o2 ≤ mo
                  · have l1 : decide ((o2 : Int) ≤ (mo : Int)) = true := decide_eq_true (by omega)
                    have l2 : decide (o2 ≤ mo) = true := decide_eq_true (by omega)
                    clear hyx hdown hom
                    go_wp2
                    go_quiet (fail)
                    have HKX := hid (HKJ.out.trans ((Keep.refl Nil wr).drewN nq) (fun _ _ e => e))
                    go_wp2
                    go_roundw
                    case rel => exact ⟨g, _, o2, by have := HJ.out; omega, by have := HJ.out; omega, rfl, by go_num, by go_num, HO2.out, hle, HKX.out⟩
                    case measure => first | (simp [intOf]; done) | (simp [intOf]; omega)
                  · have l1 : decide ((o2 : Int) ≤ (mo : Int)) = false := decide_eq_false (by omega)
                    have l2 : decide (o2 ≤ mo) = false := decide_eq_false (by omega)
                    have HLE := hid hle
                    clear hyx hdown hom hle
                    go_wp2
                    go_quiet (fail)
                    obtain ⟨V, hV⟩ : ∃ V, V = wr.drewN nq := ⟨_, rfl⟩
                    rw [← hV]
                    have HKX := hid (show Keep Nil w V by rw [hV]; exact HKJ.out.trans ((Keep.refl Nil wr).drewN nq) (fun _ _ e => e))
                    obtain ⟨p, hp, hpa, hpv, hlaw⟩ := HLW.out
                    have HQ := hid (HQT.out V HKX.out (wcn l i) p hp (g : Int) (by have := HJ.out; omega))
                    have HLA := hid (show ¬ QuietP l (concP kd nb) (wcn l i) p (g : Int) from fun q => HLE.out (by rw [HO2.out, HMO.out]; exact hlaw g (by have := HJ.out; omega) (by have := HJ.out; omega) q))
                    clear hV HLW hp hpa hpv hlaw t0 t1 u0
                    go_wp2_with fail
                    refine HQ.out.mono ?_
                    rintro e w8 ⟨q, rfl, hq, hk8⟩
                    have HK8 := hid (HKX.out.trans hk8 (fun _ _ e => e))
                    cases q with
                    | true => exact absurd (hq rfl) HLA.out
                    | false =>
                      clear hq hk8 HQ
                      go_wp2
                      go_roundw
                      case rel => exact ⟨i + 1, by omega, by go_num, by rw [HN.out], HK8.out⟩
                      case measure => first | (simp [intOf]; done) | (simp [intOf]; omega)
                · have b6 : (y == x.th) = false := by simp [hyx]
                  rw [if_neg hyx, Nat.add_zero] at hdown
                  have l1 : decide ((o : Int) ≤ (mo : Int)) = true := decide_eq_true (by omega)
                  have l2 : decide (o ≤ mo) = true := decide_eq_true (by omega)
                  have HD := hid hdown
                  clear hyx hdown
                  go_wp2
                  go_quiet (fail)
                  have HKX := hid (HKJ.out.trans ((Keep.refl Nil wr).drewN nq) (fun _ _ e => e))
                  go_wp2
                  go_roundw
                  case rel => exact ⟨g, _, o, by have := HJ.out; omega, by have := HJ.out; omega, rfl, by go_num, rfl, by rw [← HD.out]; exact HO2.out, hom, HKX.out⟩
                  case measure => first | (simp [intOf]; done) | (simp [intOf]; omega)
              · have e4 : decide (c ≥ x.step) = false := decide_eq_false (by omega)
                have e4' : decide (x.step ≤ c) = false := decide_eq_false (by omega)
                clear hjx hj0 hj1 hc
                go_wp2
                go_roundw
                case rel => exact ⟨i + 1, by omega, by go_num, by rw [HN.out], HKJ.out⟩
                case measure => first | (simp [intOf]; done) | (simp [intOf]; omega)
      · have b3 : (x.kind != 3) = true := by simp [h3]
        have HN := hid (show ((wcn l (i + 1) : Nat) : Int) = ((wcn l i : Nat) : Int) by rw [wcn_no HX.out h3])
        clear h3
        go_wp2
        go_roundw
        case rel => exact ⟨i + 1, by omega, by go_num, by rw [HN.out], HKZ.out⟩
        case measure => first | (simp [intOf]; done) | (simp [intOf]; omega)
    · obtain rfl : i = l.length := by omega
      have e2 : decide ((l.length : Int) < (l.length : Int)) = false := decide_eq_false (by omega)
      go_wp2
      go_ret
      exact ⟨rfl, HKZ.out⟩
end
end Go.Proofs.YtldjlcdccnnogaaGreat
