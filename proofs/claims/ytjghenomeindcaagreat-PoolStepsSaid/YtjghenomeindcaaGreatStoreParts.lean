/- What base.New calls: tower.New, prcu.New. -/
import Derived.Test.YtjghenomeindcaaGreatPoolNew
import Derived.Test.YtjghenomeindcaaGreatFull
import Derived.Test.YtjghenomeindcaaGreatEach0
import Derived.Test.YtjghenomeindcaaGreatGate0
import Derived.Deep.RegionHeld3
set_option linter.unusedVariables false
set_option linter.unusedSimpArgs false
namespace Go.Proofs.YtjghenomeindcaaGreat
open Go.RowKit Go.Lf
attribute [local go_sem] fld0 fld1 fld2 fld3 fld4 fld5 fld6 fld7 fld8 fld9
section
variable {w : World} {L mb : Nat} {c : Cfg} {F : Nat → Prop} {ws : List Int} {log : List Acc}
def PtrTo (w : World) (e : Ending) (w' : World) : Prop := ∃ t, e = .returned (.tuple #[.pointer (some ⟨t, 0, none⟩), .int .i64 0]) ∧ Keep Nil w w'
set_option maxRecDepth 100000 in
set_option maxHeartbeats 4000000 in
theorem towernew_ok (hl : LayAt w L c) (hm : MemAt w mb F ws log) (hw : ws.length = c.words) (h16 : c.words ≤ 65536) : Calls Tryz.prog 62 #[.pointer (some ⟨mb, 0, none⟩), .pointer (some ⟨L, 0, none⟩)] w (PtrTo w) := by
  have HL := hid hl
  have HM := hid hm
  have HW := hid hw
  have dn : ((c.words : Int) != (c.words : Int)) = false := by simp
  clear hl hm hw
  go_enter Tryz.func62, Tryz.ntmps62
  go_wp2_with fail
  refine (words_ok HM.out (by have := HW.out; omega)).mono ?_
  rw [HW.out]
  rintro e w1 ⟨g, rfl, hg, hz, hk⟩
  have HK := hid hk
  have HL1 := hid (HL.out.keep hk)
  clear hg hz hk
  go_wp2_with fail
  refine (places_ok HL1.out).mono ?_
  rintro e w2 ⟨rfl, hk2⟩
  have HK2 := hid (HK.out.trans hk2 (fun _ _ h => h))
  clear hk2
  go_wp2
  go_ret2
  exact ⟨_, rfl, HK2.out.alloc _⟩
set_option maxHeartbeats 4000000 in
theorem pwords_ok (hok : c.ok) : Calls Tryz.prog 117 #[.int .u8 c.eng, .int .i64 (c.sl : Int), .int .i64 (c.bk : Int)] w fun e w' => e = .returned (.tuple #[.int .i64 (c.engW : Int), .int .i64 0]) ∧ w = w' := by
  have HOK := hid hok
  have s1 : decide ((c.sl : Int) < 1) = false := decide_eq_false (by have := hok.sl1; omega)
  have s2 : decide (64 < (c.sl : Int)) = false := decide_eq_false (by have := hok.sl2; omega)
  have HE := hid (show c.engW = if c.eng = 1 then c.sl else if c.eng = 2 then 2 * c.sl else 4 * c.bk from rfl)
  rcases hok.eng with h | h | h
  · have hb := hok.bk0 (by omega)
    have hE : (c.engW : Int) = (c.sl : Int) := by have := HE.out; rw [if_pos h] at this; omega
    rw [h, hb, hE]
    clear hok h hb hE HE
    go_enter Tryz.func117, Tryz.ntmps117
    go_wp2_with fail
    refine (fwords_ok (c.sl : Int) (by have := HOK.out.sl1; have := HOK.out.sl2; omega)).mono ?_
    rintro e w' ⟨rfl, rfl⟩
    go_wp2
    go_ret2
    exact ⟨rfl, rfl⟩
  · have hb := hok.bk0 (by omega)
    have hE : (c.engW : Int) = 2 * (c.sl : Int) := by have := HE.out; rw [if_neg (by omega), if_pos h] at this; omega
    rw [h, hb, hE]
    clear hok h hb hE HE
    go_enter Tryz.func117, Tryz.ntmps117
    go_wp2_with fail
    refine (ewords_ok (c.sl : Int) (by have := HOK.out.sl1; have := HOK.out.sl2; omega)).mono ?_
    rintro e w' ⟨rfl, rfl⟩
    go_wp2
    go_ret2
    exact ⟨rfl, rfl⟩
  · have hb := hok.bk3 h
    have hE : (c.engW : Int) = 4 * (c.bk : Int) := by have := HE.out; rw [if_neg (by omega), if_neg (by omega)] at this; omega
    rw [h, hE]
    have HB := hid hb
    clear hok h hb hE HE
    go_enter Tryz.func117, Tryz.ntmps117
    go_wp2_with fail
    refine (gwords_ok (c.bk : Int) (by have := HB.out; omega)).mono ?_
    rintro e w' ⟨rfl, rfl⟩
    go_wp2
    go_ret2
    exact ⟨rfl, rfl⟩
set_option maxRecDepth 100000 in
set_option maxHeartbeats 4000000 in
theorem pnew_ok (hm : MemAt w mb F ws log) (hok : c.ok) (hw : ws.length = c.words) (h16 : c.words ≤ 65536) : Calls Tryz.prog 63 #[.pointer (some ⟨mb, 0, none⟩), .int .u8 c.eng, .int .i64 (c.engine : Int), .int .i64 (c.sl : Int), .int .i64 (c.bk : Int)] w (PtrTo w) := by
  have HM := hid hm
  have HOK := hid hok
  have HE := hid (show c.engW = if c.eng = 1 then c.sl else if c.eng = 2 then 2 * c.sl else 4 * c.bk from rfl)
  have PW := fun w => hid (@pwords_ok w c hok)
  have HW := hid hw
  have hq := le_words c
  have a1 := hok.sl1
  have a2 := hok.sl2
  clear hm hw
  rcases hok.eng with h | h | h
  · have hE : c.engW = c.sl := by have := HE.out; rw [if_pos h] at this; omega
    have hN : fErr (c.engine : Int) (c.sl : Int) ws.length = 0 := by
      unfold fErr
      rw [if_neg (by omega), if_neg (by have := HW.out; omega)]
    have HN := hid hN
    rw [h] at PW ⊢
    clear hok h hE HE hN hq a1 a2
    go_enter Tryz.func63, Tryz.ntmps63
    go_wp2_with fail
    refine (PW _).out.mono ?_
    rintro e w' ⟨rfl, rfl⟩
    go_wp2_with fail
    refine (fnew_ok (HM.out.keep ((Keep.refl Nil w).alloc _) (fun _ _ h => h)) (by have := HW.out; omega) _ _ HN.out).mono ?_
    rintro e w1 ⟨g, nb, bb, rfl, -, hk, -, -, -⟩
    have HK := hid (((Keep.refl Nil w).alloc _).trans hk (fun _ _ h => h))
    have hpb := hk.at (heap_alloc_new w _) (fun h => h)
    have cp := cell_of hpb 0
    have fp : w1.frozen? ⟨w.heap.size, 0, none⟩ = false := free_of hpb 0
    clear hk hpb
    go_wp2
    go_ret2
    exact ⟨_, rfl, Keep.setCell HK.out (.inr (Nat.le_refl _)) _⟩
  · have hE : c.engW = 2 * c.sl := by have := HE.out; rw [if_neg (by omega), if_pos h] at this; omega
    have hN : pErr 2 64 (c.engine : Int) (c.sl : Int) ws.length = 0 := by
      unfold pErr
      rw [if_neg (by omega), if_neg (by have := HW.out; omega)]
    have HN := hid hN
    rw [h] at PW ⊢
    clear hok h hE HE hN hq a1 a2
    go_enter Tryz.func63, Tryz.ntmps63
    go_wp2_with fail
    refine (PW _).out.mono ?_
    rintro e w' ⟨rfl, rfl⟩
    go_wp2_with fail
    refine (enew_ok (HM.out.keep ((Keep.refl Nil w).alloc _) (fun _ _ h => h)) (by have := HW.out; omega) _ _ HN.out).mono ?_
    rintro e w1 ⟨g, sb, cb, rfl, -, hk, -, -, -⟩
    have HK := hid (((Keep.refl Nil w).alloc _).trans hk (fun _ _ h => h))
    have hpb := hk.at (heap_alloc_new w _) (fun h => h)
    have cp := cell_of hpb 0
    have fp : w1.frozen? ⟨w.heap.size, 0, none⟩ = false := free_of hpb 0
    clear hk hpb
    go_wp2
    go_ret2
    exact ⟨_, rfl, Keep.setCell HK.out (.inr (Nat.le_refl _)) _⟩
  · have hE : c.engW = 4 * c.bk := by have := HE.out; rw [if_neg (by omega), if_neg (by omega)] at this; omega
    have hb := hok.bk3 h
    have hN : pErr 4 16 (c.engine : Int) (c.bk : Int) ws.length = 0 := by
      unfold pErr
      rw [if_neg (by omega), if_neg (by have := HW.out; omega)]
    have HN := hid hN
    rw [h] at PW ⊢
    clear hok h hE HE hN hq a1 a2 hb
    go_enter Tryz.func63, Tryz.ntmps63
    go_wp2_with fail
    refine (PW _).out.mono ?_
    rintro e w' ⟨rfl, rfl⟩
    go_wp2_with fail
    refine (gnew_ok (HM.out.keep ((Keep.refl Nil w).alloc _) (fun _ _ h => h)) (by have := HW.out; omega) _ _ HN.out).mono ?_
    rintro e w1 ⟨g, r, rfl, -, hk, -, -⟩
    have HK := hid (((Keep.refl Nil w).alloc _).trans hk (fun _ _ h => h))
    have hpb := hk.at (heap_alloc_new w _) (fun h => h)
    have cp := cell_of hpb 0
    have fp : w1.frozen? ⟨w.heap.size, 0, none⟩ = false := free_of hpb 0
    clear hk hpb
    go_wp2
    go_ret2
    exact ⟨_, rfl, Keep.setCell HK.out (.inr (Nat.le_refl _)) _⟩
end
end Go.Proofs.YtjghenomeindcaaGreat
