/- law14: simple. -/
import Derived.Test.YtjghenomeindcaaPoolBn
import Derived.Test.YtjghenomeindcaaKitI
set_option linter.unusedVariables false
set_option linter.unusedSimpArgs false
namespace Go.Lf
def PRun.rep (c : Cfg) (g : Bool) : Nat → PRun → PRun
  | 0, R => R
  | k + 1, R => (R.rep c g k).act c 0 g 1
def sc : Cfg := pcfg [2, 0, 0, 0, 0, 0]
theorem si_mine : ((PRun.init sc).rep sc false 6).mine 0 = [1, 2] := by decide +kernel
theorem si_list : (((PRun.init sc).rep sc false 6).rep sc true 6).L 0 = [2, 1] := by decide +kernel
theorem PGood.rep {c : Cfg} {R : PRun} {N : Nat} (h : PGood c R N) (hok : c.ok) (g : Bool) (k : Nat) : PGood c (R.rep c g k) (N + k) := by
  induction k with
  | zero => exact h
  | succ k ih => exact ih.act hok (by decide) g (by decide) (by decide)
theorem PGood.init {c : Cfg} (hok : c.ok) : PGood c (PRun.init c) 0 := ⟨PInv.init hok, fun _ _ => ⟨Int.le_refl _, (by decide : (0 : Int) ≤ 3)⟩, Nat.le_refl _⟩
end Go.Lf
namespace Go.Proofs.Ytjghenomeindcaa
open Go.RowKit Go.Lf
section
variable {w w' : World}
theorem orow_rd {e : TypeId} {v : Value} {zs : List Int} (h : ORow w e v zs) : Rd w 1 v zs.length (zs.map (Value.int .i64)) := by
  obtain ⟨a, cp, rfl, ⟨rfl, rfl, rfl⟩ | ⟨g, off, cur, rfl, hg, -, -, -, hc⟩⟩ := h
  · exact ⟨none, 0, rfl, rfl, .inl ⟨rfl, rfl, rfl⟩⟩
  · refine ⟨_, cp, rfl, by simp, .inr <| .inl ⟨g, off, rfl, fun j u hu => ?_⟩⟩
    rw [List.getElem?_map] at hu
    cases hx : zs[j]? with
    | none => rw [hx] at hu; cases hu
    | some x =>
      rw [hx] at hu
      rw [← Option.some.inj hu, cell_of hg]
      exact hc j x hx
theorem begin_two (w : World) : Calls Try.prog 8 #[.agg #[.int .i64 2, .int .i64 0, .int .i64 0, .int .i64 0, .int .i64 0, .int .i64 0]] w (BegTo w sc) := begin_ok w 2 0 0 0 0 0 (by decide)
theorem sc_ok : sc.ok := pcfg_ok rfl (by decide)
/-- Step k of thread 0. -/
theorem rep_ok {w : World} {rb pb L : Nat} {R : PRun} {N : Nat} (h : RunTo ⟨w, Nil⟩ sc R rb pb L w') (hg : PGood sc R N) (hN : N ≤ 1000) (g : Bool) : Calls Try.prog 29 #[.pointer (some ⟨rb, 0, none⟩), .int .i64 0, .bool g, .int .i64 1] w' fun e w2 => e = .returned (.bool true) ∧ RunTo ⟨w, Nil⟩ sc (R.act sc 0 g 1) rb pb L w2 := by
  obtain ⟨own, f, h⟩ := h
  exact ract_any (t := 0) h hg.inv hg.sb sc_ok (by have := hg.log; omega) (by decide) g 1 (by decide) (by decide)
set_option maxRecDepth 100000 in
set_option maxHeartbeats 4000000 in
theorem simple_ok (w : World) : Calls Try.prog 11 #[] w fun e w' => e = .returned (.bool true) ∧ Keep Nil w w' := by
  go_enter Try.func11, Try.ntmps11
  go_wp2_with fail
  refine (begin_two w).mono ?_
  rintro e w1 ⟨rb, pb, L, own, f, rfl, h⟩
  have HB := hid (show RunTo ⟨w, Nil⟩ sc ((PRun.init sc).rep sc false 0) rb pb L w1 from ⟨own, f, h⟩)
  clear h
  go_wp2
  go_loopw [2] (fun i wz => ∃ k : Nat, k ≤ 6 ∧ i = .int .i64 (k : Int) ∧ Hid (RunTo ⟨w, Nil⟩ sc ((PRun.init sc).rep sc false k) rb pb L wz)) (fun i _ => 6 - (intOf i).toNat)
  case atStart => exact ⟨0, Nat.zero_le _, rfl, HB⟩
  case round =>
    clear HB
    obtain ⟨k, hk, rfl, HR⟩ := hrel
    by_cases hlt : k < 6
    · have HA := hid (rep_ok HR.out ((PGood.init sc_ok).rep sc_ok false k) (by omega) false)
      go_wp2_with fail
      refine HA.out.mono ?_
      rintro e w2 ⟨rfl, h2⟩
      have H2 := hid h2
      clear h2
      go_wp2
      go_roundw
      case rel => exact ⟨k + 1, by omega, by go_num, H2⟩
      case measure => simp [intOf]; omega
    · obtain rfl : k = 6 := by omega
      obtain ⟨own, f, h6⟩ := HR.out
      have hm := h6.mine 0 (by decide)
      rw [si_mine] at hm
      have q := h6.cell (j := 3) (i := 0) (by decide) (by decide)
      generalize f 3 0 = vm at hm q
      have HM := hid hm.1
      have H6 := hid h6
      clear h6 hm
      go_wp2_with fail
      refine (eqInts_yes vm _ [1, 2] _ (rd_keep (orow_rd HM.out) ((Keep.refl Nil wr).alloc _) (fun _ _ h => h)) (rd_new _ _ _ _ _ _) (by decide)).mono ?_
      rintro e w2 ⟨rfl, hk2⟩
      have HB := hid (show RunTo ⟨w, Nil⟩ sc (((PRun.init sc).rep sc false 6).rep sc true 0) rb pb L w2 from ⟨own, f, H6.out.quiet (((Keep.refl Nil wr).alloc _).trans hk2 (fun _ _ h => h))⟩)
      clear hk2 H6 HM q HR hk hlt
      go_wp2
      go_loopw [3] (fun i wz => ∃ k : Nat, k ≤ 6 ∧ i = .int .i64 (k : Int) ∧ Hid (RunTo ⟨w, Nil⟩ sc (((PRun.init sc).rep sc false 6).rep sc true k) rb pb L wz)) (fun i _ => 6 - (intOf i).toNat)
      case atStart => exact ⟨0, Nat.zero_le _, rfl, HB⟩
      case round =>
        clear HB
        obtain ⟨k, hk, rfl, HR⟩ := hrel
        by_cases hlt : k < 6
        · have HA := hid (rep_ok HR.out (((PGood.init sc_ok).rep sc_ok false 6).rep sc_ok true k) (by omega) true)
          go_wp2_with fail
          refine HA.out.mono ?_
          rintro e w2 ⟨rfl, h2⟩
          have H2 := hid h2
          clear h2
          go_wp2
          go_roundw
          case rel => exact ⟨k + 1, by omega, by go_num, H2⟩
          case measure => simp [intOf]; omega
        · obtain rfl : k = 6 := by omega
          obtain ⟨own, f, h6⟩ := HR.out
          have hg := ((PGood.init sc_ok).rep sc_ok false 6).rep sc_ok true 6
          have q1 := h6.cell0.2
          obtain ⟨A, ⟨mb, ob, gb, F, G, hpa⟩, -⟩ := h6.pl
          have hl := plist_ok hpa sc_ok hg.inv.si (by
            have hs := fun k hk => hg.inv.swl k hk
            have := hg.log
            exact ⟨by have := hs 0 (by decide); omega, by have := hs 1 (by decide); omega, by have := hs 2 (by decide); omega, by have := hs 3 (by decide); omega, by have := hs 4 (by decide); omega, by have := hs 5 (by decide); omega⟩) 1 (by decide) (by decide)
          rw [show (1 : Int).toNat - 1 = 0 from rfl, si_list] at hl
          have HLI := hid hl
          have HKP := hid h6.kp
          clear hl hpa h6 hg HR
          go_wp2_with fail
          refine HLI.out.mono ?_
          rintro e w3 ⟨a, cp, rfl, hrow, hk3, -⟩
          have HRD := hid (orow_rd (ORow.of_row hrow))
          have HK3 := hid (HKP.out.trans hk3 (fun _ _ h => h))
          clear hrow hk3
          go_wp2_with fail
          refine (eqInts_yes _ _ [2, 1] _ (rd_keep HRD.out ((Keep.refl Nil w3).alloc _) (fun _ _ h => h)) (rd_new _ _ _ _ _ _) (by decide)).mono ?_
          rintro e w4 ⟨rfl, hk4⟩
          have HK4 := hid (HK3.out.trans (((Keep.refl Nil w3).alloc _).trans hk4 (fun _ _ h => h)) (fun _ _ h => h))
          clear hk4
          go_wp2
          go_ret
          exact ⟨rfl, HK4.out⟩
end
end Go.Proofs.Ytjghenomeindcaa
