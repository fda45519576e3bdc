/- law14: Run.parts. -/
import Derived.Test.YtjghenomeindcaaPoolZ
set_option linter.unusedVariables false
set_option linter.unusedSimpArgs false
namespace Go.Lf
theorem cnt_bd (l : List Int) (x : Int) : 0 ≤ occ l x ∧ occ l x ≤ l.length := by
  unfold occ
  have := List.count_le_length (a := x) (l := l)
  omega
theorem stks_len {c : Cfg} {s : PSt} {L : Nat → List Int} {sw : Nat → Int} (h : SInv c s L sw) : ∀ k, k ≤ 6 → (stks L k).length ≤ k * c.nT
  | 0, _ => by simp [stks]
  | k + 1, hk => by
    rw [stks_succ, List.length_append]
    have := stks_len h k (by omega)
    have := h.len (k := k) (by omega)
    rw [Nat.succ_mul]
    omega
end Go.Lf
namespace Go.Proofs.Ytjghenomeindcaa
open Go.RowKit Go.Lf
section
variable {w0 : Frm} {w w' : World} {c : Cfg} {R : PRun} {rb pb L t : Nat} {own own' : Nat → Option Nat} {f : Nat → Nat → Value} {o : PO} {x : Int}
set_option maxRecDepth 100000 in
set_option maxHeartbeats 4000000 in
theorem parts_ok (h : RunAt w0 w c R rb pb L own f) (hi : PInv c R) (hok : c.ok) (hl : R.s.log.length < 1000000) (hn : c.nT ≤ 60) :
    Calls Try.prog 10 #[.pointer (some ⟨rb, 0, none⟩)] w fun e w' => e = .returned (.bool true) ∧ Keep Nil w w' := by
  have H := hid h
  have HI := hid hi
  have hswb : ∀ k, k < 6 → R.sw k < 4000000000 := fun k hk => by have := hi.swl k hk; omega
  have HSW := hid (And.intro (hswb 0 (by decide)) (And.intro (hswb 1 (by decide)) (And.intro (hswb 2 (by decide)) (And.intro (hswb 3 (by decide)) (And.intro (hswb 4 (by decide)) (hswb 5 (by decide)))))))
  clear h hi hswb
  go_enter Try.func10, Try.ntmps10
  go_upto_region 2 with fail
  obtain ⟨cb, hcb⟩ : ∃ x, x = w.heap.size := ⟨_, rfl⟩
  obtain ⟨Wc, hWc⟩ : ∃ W, W = w.alloc (.cells (List.replicate 64 (Value.int .i64 0)).toArray 67) := ⟨_, rfl⟩
  have hWc' := hWc
  simp only [List.replicate] at hWc'
  rw [← hWc', ← hcb]
  have HC0 := hid (show Wc.heap[cb]? = some (.cells (ivs (cnts 64 (stks R.L 0))).toArray 67 (0, 0)) from by
    rw [hWc, hcb, show stks R.L 0 = [] from rfl, cnts_nil]
    exact heap_alloc_new w _)
  have HK0 := hid (show Keep Nil w Wc from hWc ▸ (Keep.refl Nil w).alloc _)
  have HCB := hid (show w.heap.size ≤ cb from by omega)
  clear hWc hWc' hcb
  go_wp2
  go_loopw [4] (fun hv wz => ∃ k : Nat, k ≤ 6 ∧ hv = .int .i64 ((k : Int) + 1) ∧ wz.heap[cb]? = some (.cells (ivs (cnts 64 (stks R.L k))).toArray 67 (0, 0)) ∧ Keep Nil w wz) (fun hv _ => 7 - (intOf hv).toNat)
  case atStart => exact ⟨0, Nat.zero_le _, rfl, HC0.out, HK0.out⟩
  case round =>
    obtain ⟨k, hk, rfl, hcc, hkk⟩ := hrel
    by_cases hlt : k < 6
    · have d6 : decide ((k : Int) + 1 ≤ 6) = true := decide_eq_true (by omega)
      have HR := hid (H.out.quiet hkk)
      have HCC := hid hcc
      have HKK := hid hkk
      have HLT := hid hlt
      have q1 := HR.out.cell0.2
      have wk0 : IntKind.i64.wrap ((k : Int) + 1 - 1) = (k : Int) := by rw [IntKind.wrap_i64]; omega
      have ek0 : (k : Int) + 1 - 1 = (k : Int) := by omega
      have wk1 : IntKind.i64.wrap ((k : Int) + 1 + 1) = (k : Int) + 1 + 1 := by rw [IntKind.wrap_i64]; omega
      have k0 : (0 : Int) ≤ (k : Int) := by omega
      have k6 : (k : Int) < 6 := by omega
      obtain ⟨A, ⟨mb, ob, gb, F, G, hpa⟩, hA⟩ := HR.out.pl
      have HPA := hid hpa
      have HLY := hid hpa.lay
      clear hpa hA hkk hcc hk hlt
      go_wp2_with fail
      refine (plist_ok HPA.out hok HI.out.si HSW.out ((k : Int) + 1) (by omega) (by omega)).mono ?_
      rintro e w2 ⟨la, lc, rfl, hrow, hk2, hnew⟩
      rw [show ((k : Int) + 1).toNat - 1 = k by omega] at hrow hnew ⊢
      obtain ⟨l, hl⟩ : ∃ l, l = R.L k := ⟨_, rfl⟩
      rw [← hl] at hrow hnew ⊢
      have HL := hid hl
      have HROW := hid (show ORow w2 3 (.slice la l.length lc) l from ORow.of_row hrow)
      have HC2 := hid (hk2.at HCC.out (fun h => h))
      have HK2 := hid (HKK.out.trans hk2 (fun _ _ h => h))
      have HR2 := hid (H.out.quiet HK2.out)
      have hne : (Value.slice la l.length lc).ownBlock ≠ some cb := fun e => by have := hnew cb e; have := lt_of_block HCC.out; omega
      have HNE := hid hne
      obtain ⟨sa, sc, hsv⟩ := (HR2.out.stk k HLT.out).1.shape
      have q26 : w2.cell? ⟨rb, 26 + k, none⟩ = some (.slice sa l.length sc) := by
        have := HR2.out.cell (j := 4) (i := k) (by decide) HLT.out
        rw [hsv, ← hl, List.length_reverse] at this
        exact this
      have HST := hid (show ORow w2 3 (.slice sa l.length sc) l.reverse from by
        have := (HR2.out.stk k HLT.out).1
        rw [hsv, ← hl, List.length_reverse] at this
        exact this)
      have HSV := hid (show f 4 k = .slice sa l.length sc from by rw [hsv, ← hl, List.length_reverse])
      clear hrow hk2 hnew hne hl q1 hsv
      go_wp2
      clear q26
      go_loopw [7] (fun iv wz => ∃ j : Nat, j ≤ l.length ∧ iv = .int .i64 (j : Int) ∧ wz.heap[cb]? = some (.cells (ivs (cnts 64 (stks R.L k ++ l.take j))).toArray 67 (0, 0)) ∧ Keep (fun q => q = cb) w2 wz) (fun iv _ => l.length - (intOf iv).toNat)
      case atStart => exact ⟨0, Nat.zero_le _, rfl, by rw [List.take_zero, List.append_nil]; exact HC2.out, Keep.refl _ _⟩
      case round =>
        obtain ⟨j, hj, rfl, hcj, hkj⟩ := hrel
        by_cases hjl : j < l.length
        · obtain ⟨x, hx⟩ : ∃ x, l[j]? = some x := ⟨_, List.getElem?_eq_getElem hjl⟩
          have hxr := HI.out.si.rng k HLT.out x (by rw [← HL.out]; exact List.mem_of_getElem? hx)
          obtain ⟨n, rfl⟩ : ∃ n : Nat, x = (n : Int) := ⟨x.toNat, by omega⟩
          have hkw : Keep Nil w wr := HK2.out.trans hkj (fun q hq e => by have := HCB.out; omega)
          have HRW := hid (H.out.quiet hkw)
          have q0 := HRW.out.cell0.1
          have HLY := hid HRW.out.pl.lay
          obtain ⟨g, off, cp, hv, hc⟩ := (HROW.out.keep hkj (fun q e e2 => HNE.out (e2 ▸ e))).cell hx
          have hst := HST.out.keep hkj (fun q e e2 => by
            have h1 := (H.out.stk k HLT.out).2 q (by rw [HSV.out]; exact e)
            have h2 := (H.out.olt q (by rw [h1]; simp)).2
            have := HCB.out
            omega)
          obtain ⟨g2, off2, cp2, hv2, hc2⟩ := hst.cell (i := l.length - 1 - j) (x := (n : Int)) (by rw [List.getElem?_reverse (by omega), show l.length - 1 - (l.length - 1 - j) = j by omega]; exact hx)
          rw [List.length_reverse] at hv2
          have q26 : wr.cell? ⟨rb, 26 + k, none⟩ = some (.slice sa l.length sc) := by
            have := HRW.out.cell (j := 4) (i := k) (by decide) HLT.out
            rw [HSV.out] at this
            exact this
          simp only [Value.slice.injEq, true_and] at hv hv2
          obtain ⟨rfl, rfl⟩ := hv
          obtain ⟨rfl, rfl⟩ := hv2
          obtain ⟨oc, hoc⟩ : ∃ oc, oc = occ (stks R.L k ++ l.take j) (n : Int) := ⟨_, rfl⟩
          have hocb := cnt_bd (stks R.L k ++ l.take j) (n : Int)
          have hsl := stks_len HI.out.si k (by have := HLT.out; omega)
          have hll : l.length ≤ c.nT := by rw [HL.out]; exact HI.out.si.len HLT.out
          have hk5 : k * c.nT ≤ 5 * c.nT := Nat.mul_le_mul_right _ (by have := HLT.out; omega)
          rw [List.length_append, List.length_take, ← hoc] at hocb
          have wo : IntKind.i64.wrap (oc + 1) = oc + 1 := by rw [IntKind.wrap_i64]; omega
          have cc : wr.cell? ⟨cb, n, none⟩ = some (.int .i64 oc) := by
            rw [cell_of hcj]
            have := ivs_at (cnts_at (n := 64) (i := n) (stks R.L k ++ l.take j) (by omega))
            rw [← hoc] at this
            simpa using this
          have cz : wr.frozen? ⟨cb, n, none⟩ = false := free_of hcj n
          have HSET := hid (show (ivs (cnts 64 (stks R.L k ++ l.take j))).toArray.setIfInBounds n (.int .i64 (oc + 1)) = (ivs (cnts 64 (stks R.L k ++ l.take (j + 1)))).toArray from by
            rw [List.setIfInBounds_toArray]
            unfold ivs
            rw [← List.map_set, hoc, cnts_set _ (by omega), take_snoc hx, List.append_assoc])
          have HCJ := hid hcj
          have HHT := hid hxr.2.2
          have HXB := hid hxr.1
          have j0 : (0 : Int) ≤ (j : Int) := by omega
          have j1 : (j : Int) < (l.length : Int) := by omega
          have n0 : (0 : Int) ≤ (n : Int) := by omega
          have n6 : (n : Int) < 64 := by omega
          have b1 : IntKind.i64.wrap ((l.length : Int) - 1) = (l.length : Int) - 1 := by rw [IntKind.wrap_i64]; omega
          have b2 : IntKind.i64.wrap ((l.length : Int) - 1 - (j : Int)) = (l.length : Int) - 1 - (j : Int) := by rw [IntKind.wrap_i64]; omega
          have b3 : 0 ≤ (l.length : Int) - 1 - (j : Int) := by omega
          have b4 : (l.length : Int) - 1 - (j : Int) < (l.length : Int) := by omega
          have wj : IntKind.i64.wrap ((j : Int) + 1) = (j : Int) + 1 := by rw [IntKind.wrap_i64]; omega
          have HKJ := hid hkj
          have HJL := hid hjl
          have HLL := hid (show l.length ≤ 60 by omega)
          clear hxr hkw hst hx hocb hsl hll hk5 hoc hcj hkj hjl hj
          go_wp2
          go_quiet ((go_at_call 28; exact quiet_eq (height_ok (HLY.out.keep ((Keep.refl Nil _).drewN _)) hok HHT.out (n : Int) (by have := HXB.out; omega))))
          simp only [Int.natCast_add, Int.natCast_one]
          obtain ⟨Wd, hWd⟩ : ∃ Wd, Wd = wr.drewN nq := ⟨_, rfl⟩
          rw [← hWd]
          have k4 : Keep Nil wr Wd := hWd ▸ (Keep.refl Nil wr).drewN nq
          have q26' := k4.cell q26 (fun h => h)
          have hc' := k4.cell hc (fun h => h)
          have hc2' := k4.cell hc2 (fun h => h)
          have K4 := hid k4
          clear q26 hc hc2 hWd k4 q0
          go_wp2
          go_quiet (fail)
          obtain ⟨We, hWe⟩ : ∃ We, We = Wd.drewN nq := ⟨_, rfl⟩
          rw [← hWe]
          have k5 : Keep Nil wr We := K4.out.trans (hWe ▸ (Keep.refl Nil Wd).drewN nq) (fun _ _ h => h)
          have hc3 := (show Keep Nil Wd We from hWe ▸ (Keep.refl Nil Wd).drewN nq).cell hc' (fun h => h)
          have hcj5 := k5.at HCJ.out (fun h => h)
          have cc5 := k5.cell cc (fun h => h)
          have cz5 : We.frozen? ⟨cb, n, none⟩ = false := free_of hcj5 n
          have HC5 := hid hcj5
          have K5 := hid (HKJ.out.trans (k5.mono (T := fun q => q = cb) (fun _ _ h => h.elim)) (fun _ _ h => h))
          clear hWe k5 hcj5 cc cz q26' hc' hc2'
          go_wp2
          go_roundw
          case rel => exact ⟨j + 1, by have := HJL.out; omega, by go_num, by rw [set_same HC5.out, HSET.out], K5.out.setCell (.inl rfl) _⟩
          case measure => have := HJL.out; simp [intOf]; omega
        · obtain rfl : j = l.length := by omega
          rw [List.take_length] at hcj
          have HCJ := hid hcj
          have HKJ := hid hkj
          clear hcj hkj hjl hj
          go_wp2
          go_roundw
          case rel => exact ⟨k + 1, by have := HLT.out; omega, by go_num, by rw [stks_succ, ← HL.out]; exact HCJ.out, HK2.out.trans HKJ.out (fun q hq e => by have := HCB.out; omega)⟩
          case measure => have := HLT.out; simp [intOf]; omega
    · obtain rfl : k = 6 := by omega
      have HR := hid (H.out.quiet hkk)
      have HCC := hid hcc
      have HKK := hid hkk
      have q1 := HR.out.cell0.2
      obtain ⟨A, ⟨mb, ob, gb, F, G, hpa⟩, hA⟩ := HR.out.pl
      have HPA := hid hpa
      clear hpa hA hkk hcc hk hlt
      go_wp2_with fail
      refine (pout_ok HPA.out hok (fun x hx => ((HI.out.si.out x).1 hx).1)).mono ?_
      rintro e w2 ⟨la, lc, rfl, hrow, hk2, hnew⟩
      obtain ⟨l, hl⟩ : ∃ l, l = outL c.nT R.s.out := ⟨_, rfl⟩
      rw [← hl] at hrow hnew ⊢
      have HL := hid hl
      have HROW := hid (show ORow w2 3 (.slice la l.length lc) l from ORow.of_row hrow)
      have HC2 := hid (hk2.at HCC.out (fun h => h))
      have HK2 := hid (HKK.out.trans hk2 (fun _ _ h => h))
      have HNE := hid (show (Value.slice la l.length lc).ownBlock ≠ some cb from fun e => by have := hnew cb e; have := lt_of_block HCC.out; omega)
      have hll : l.length ≤ c.nT := by rw [hl]; exact nodup_bd (outL_nodup _ _) (fun x hx => (outL_mem.1 hx).1)
      have HLL := hid hll
      clear hrow hk2 hnew hl hll q1
      go_wp2
      go_loopw [11] (fun iv wz => ∃ j : Nat, j ≤ l.length ∧ iv = .int .i64 (j : Int) ∧ wz.heap[cb]? = some (.cells (ivs (cnts 64 (stks R.L 6 ++ l.take j))).toArray 67 (0, 0)) ∧ Keep (fun q => q = cb) w2 wz) (fun iv _ => l.length - (intOf iv).toNat)
      case atStart => exact ⟨0, Nat.zero_le _, rfl, by rw [List.take_zero, List.append_nil]; exact HC2.out, Keep.refl _ _⟩
      case round =>
        obtain ⟨j, hj, rfl, hcj, hkj⟩ := hrel
        by_cases hjl : j < l.length
        · obtain ⟨x, hx⟩ : ∃ x, l[j]? = some x := ⟨_, List.getElem?_eq_getElem hjl⟩
          have hxr := (outL_mem.1 (show x ∈ outL c.nT R.s.out by rw [← HL.out]; exact List.mem_of_getElem? hx)).1
          obtain ⟨n, rfl⟩ : ∃ n : Nat, x = (n : Int) := ⟨x.toNat, by omega⟩
          have hkw : Keep Nil w wr := HK2.out.trans hkj (fun q hq e => by have := HCB.out; omega)
          have HRW := hid (H.out.quiet hkw)
          have q0 := HRW.out.cell0.1
          have HLY := hid HRW.out.pl.lay
          obtain ⟨g, off, cp, hv, hc⟩ := (HROW.out.keep hkj (fun q e e2 => HNE.out (e2 ▸ e))).cell hx
          simp only [Value.slice.injEq, true_and] at hv
          obtain ⟨rfl, rfl⟩ := hv
          obtain ⟨oc, hoc⟩ : ∃ oc, oc = occ (stks R.L 6 ++ l.take j) (n : Int) := ⟨_, rfl⟩
          have hocb := cnt_bd (stks R.L 6 ++ l.take j) (n : Int)
          have hsl := stks_len HI.out.si 6 (Nat.le_refl _)
          rw [List.length_append, List.length_take, ← hoc] at hocb
          have wo : IntKind.i64.wrap (oc + 1) = oc + 1 := by rw [IntKind.wrap_i64]; have := HLL.out; omega
          have cc : wr.cell? ⟨cb, n, none⟩ = some (.int .i64 oc) := by
            rw [cell_of hcj]
            have := ivs_at (cnts_at (n := 64) (i := n) (stks R.L 6 ++ l.take j) (by omega))
            rw [← hoc] at this
            simpa using this
          have HSET := hid (show (ivs (cnts 64 (stks R.L 6 ++ l.take j))).toArray.setIfInBounds n (.int .i64 (oc + 1)) = (ivs (cnts 64 (stks R.L 6 ++ l.take (j + 1)))).toArray from by
            rw [List.setIfInBounds_toArray]
            unfold ivs
            rw [← List.map_set, hoc, cnts_set _ (by omega), take_snoc hx, List.append_assoc])
          have HCJ := hid hcj
          have j0 : (0 : Int) ≤ (j : Int) := by omega
          have j1 : (j : Int) < (l.length : Int) := by omega
          have n0 : (0 : Int) ≤ (n : Int) := by omega
          have n6 : (n : Int) < 64 := by omega
          have d1 : decide ((n : Int) < 1) = false := decide_eq_false (by omega)
          have d1' : decide (n < 1) = false := decide_eq_false (by omega)
          have d2 : decide ((c.nT : Int) < (n : Int)) = false := decide_eq_false (by omega)
          have d2' : decide (c.nT < n) = false := decide_eq_false (by omega)
          have wj : IntKind.i64.wrap ((j : Int) + 1) = (j : Int) + 1 := by rw [IntKind.wrap_i64]; have := HLL.out; omega
          have HKJ := hid hkj
          have HJL := hid hjl
          clear hxr hkw hx hocb hsl hoc hcj hkj hjl hj
          go_wp2
          go_quiet ((go_at_call 27; exact quiet_eq (towers_ok (HLY.out.keep ((Keep.refl Nil _).drewN _)))))
          obtain ⟨We, hWe⟩ : ∃ We, We = wr.drewN nq := ⟨_, rfl⟩
          rw [← hWe]
          have k5 : Keep Nil wr We := hWe ▸ (Keep.refl Nil wr).drewN nq
          have hc3 := k5.cell hc (fun h => h)
          have hcj5 := k5.at HCJ.out (fun h => h)
          have cc5 := k5.cell cc (fun h => h)
          have cz5 : We.frozen? ⟨cb, n, none⟩ = false := free_of hcj5 n
          have HC5 := hid hcj5
          have K5 := hid (HKJ.out.trans (k5.mono (T := fun q => q = cb) (fun _ _ h => h.elim)) (fun _ _ h => h))
          clear hWe k5 hcj5 cc hc q0
          go_wp2
          go_roundw
          case rel => exact ⟨j + 1, by have := HJL.out; omega, by go_num, by rw [set_same HC5.out, HSET.out], K5.out.setCell (.inl rfl) _⟩
          case measure => have := HJL.out; simp [intOf]; omega
        · obtain rfl : j = l.length := by omega
          rw [List.take_length, HL.out] at hcj
          have HCJ := hid hcj
          have HKJ := hid (HK2.out.trans hkj (fun q hq e => by have := HCB.out; omega))
          clear hcj hkj hjl hj
          go_wp2
          go_loopw [12] (fun iv wz => ∃ j : Nat, j ≤ c.nT ∧ iv = .int .i64 ((j : Int) + 1) ∧ wz = wr) (fun iv _ => c.nT + 1 - (intOf iv).toNat)
          case atStart => exact ⟨0, Nat.zero_le _, rfl, rfl⟩
          case round =>
            obtain ⟨j, hj, rfl, rfl⟩ := hrel
            have HRW := hid (H.out.quiet HKJ.out)
            have q0 := HRW.out.cell0.1
            have HLY := hid HRW.out.pl.lay
            by_cases hjl : j < c.nT
            · have cc : wr.cell? ⟨cb, j + 1, none⟩ = some (.int .i64 1) := by
                rw [cell_of HCJ.out]
                have := ivs_at (cnts_at (n := 64) (i := j + 1) (stks R.L 6 ++ outL c.nT R.s.out) (by omega))
                rw [HI.out.si.parts (x := ((j + 1 : Nat) : Int)) (by omega) (by omega)] at this
                simpa using this
              have dj : decide ((j : Int) + 1 ≤ (c.nT : Int)) = true := decide_eq_true (by omega)
              have wj : IntKind.i64.wrap ((j : Int) + 1 + 1) = (j : Int) + 1 + 1 := by rw [IntKind.wrap_i64]; omega
              have j0 : (0 : Int) ≤ (j : Int) + 1 := by omega
              have j1 : (j : Int) + 1 < 64 := by omega
              have jt : ((j : Int) + 1).toNat = j + 1 := by omega
              have HJL := hid hjl
              clear hjl hj
              go_wp2_with fail
              refine (towers_ok HLY.out).mono ?_
              rintro e w9 ⟨rfl, rfl⟩
              go_wp2
              go_roundw
              case rel => exact ⟨j + 1, by have := HJL.out; omega, by go_num, by trivial⟩
              case measure => have := HJL.out; simp [intOf]; omega
            · obtain rfl : j = c.nT := by omega
              have dj : decide ((c.nT : Int) + 1 ≤ (c.nT : Int)) = false := decide_eq_false (by omega)
              clear hjl hj
              go_wp2_with fail
              refine (towers_ok HLY.out).mono ?_
              rintro e w9 ⟨rfl, rfl⟩
              go_wp2
              go_ret
              exact ⟨rfl, HKJ.out⟩
end
end Go.Proofs.Ytjghenomeindcaa
