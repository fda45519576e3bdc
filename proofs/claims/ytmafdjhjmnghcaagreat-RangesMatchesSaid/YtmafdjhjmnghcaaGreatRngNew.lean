/- ranges: New. -/
import Derived.Test.YtmafdjhjmnghcaaGreatRngStep
import Derived.Deep.DeepCutAuto
set_option linter.unusedVariables false
set_option linter.unusedSimpArgs false
namespace Go.Proofs.YtmafdjhjmnghcaaGreat
open Go.RowKit Go.Lf
section
variable {w w1 w2 w' : World} {A : Nat → Prop} {c : Cfg} {b mb L l sb m : Nat} {F G : Nat → Prop} {ws ws' : List Int} {log log' : List Acc} {s s' : KS}
set_option maxHeartbeats 2000000 in
theorem spanck_ok (lo hi : Int) (e : Int) (he : e = if hi < lo then 13 else 0) : Calls Tryz.prog 62 #[.agg #[.int .u64 lo, .int .u64 hi]] w fun e' w' => e' = .returned (.int .i64 e) ∧ Keep Nil w w' := by
  by_cases h : hi < lo
  · rw [if_pos h] at he
    subst he
    go_enter Tryz.func62, Tryz.ntmps62
    go_wp2
    go_ret
    exact ⟨rfl, Keep.alloc (Keep.refl _ _) _⟩
  · rw [if_neg h] at he
    subst he
    go_enter Tryz.func62, Tryz.ntmps62
    go_wp2
    go_ret
    exact ⟨rfl, Keep.alloc (Keep.refl _ _) _⟩
def KNewTo (w : World) (b : Nat) (s : KS) (e : Ending) (w' : World) : Prop :=
  ∃ l sb m, e = .returned (.tuple #[.pointer (some ⟨l, 0, none⟩), .int .i64 0]) ∧ LkAt w' l sb m b s ∧ Keep Nil w w' ∧ w.heap.size ≤ l ∧ w.heap.size ≤ sb ∧ w.heap.size ≤ m
set_option maxRecDepth 100000 in
set_option maxHeartbeats 8000000 in
theorem knew_ok (t lo hi tr : Int) (t0 : 0 ≤ t) (t1 : t < 64) (r0 : 0 ≤ tr) (r1 : tr ≤ 255) (hs : lo ≤ hi) :
    Calls Tryz.prog 12 #[.pointer (some ⟨b, 0, none⟩), .int .i64 t, .agg #[.int .u64 lo, .int .u64 hi], .int .i64 tr] w (KNewTo w b (KS.init t lo hi tr)) := by
  have d1 : decide (t < 0) = false := decide_eq_false (by omega)
  have d2 : decide (64 ≤ t) = false := decide_eq_false (by omega)
  have d3 : decide (tr < 0) = false := decide_eq_false (by omega)
  have d4 : decide (255 < tr) = false := decide_eq_false (by omega)
  have hmm := @run_makeMap Tryz.prog
  go_enter Tryz.func12, Tryz.ntmps12
  go_wp2_with fail
  refine (spanck_ok lo hi 0 (by rw [if_neg (by omega)])).mono ?_
  rintro e w1 ⟨rfl, hk⟩
  have hb1 := hk.at (heap_alloc_new w _) (fun h => h)
  have HB1 := hid hb1
  have HK1 := hid (show Keep Nil w w1 from ((Keep.refl Nil w).alloc _).trans hk (fun _ _ h => h))
  have x0 : w1.cell? ⟨w.heap.size, 0, none⟩ = some (.int .u64 lo) := by rw [cell_of hb1]; rfl
  have x1 : w1.cell? ⟨w.heap.size, 1, none⟩ = some (.int .u64 hi) := by rw [cell_of hb1]; rfl
  have sz1 : w.heap.size < w1.heap.size := lt_of_block hb1
  clear hk hb1 d1 d2 d3 d4
  go_upto_region 9 with fail
  obtain ⟨W8, hW8⟩ : ∃ W8, W8 = w1.alloc (.cells #[.pointer (some ⟨b, 0, none⟩), .int .i64 t, .int .u64 lo, .int .u64 hi, .int .i64 tr, .int .i64 0, .int .i64 0, .int .i64 0, .int .u64 0, .bool false, .func (.func 63) #[] #[.pointer (some ⟨w.heap.size, 0, none⟩)], .map none, .int .u8 2, .int .i64 0] 134) := ⟨_, rfl⟩
  have hl8 : W8.heap[w1.heap.size]? = some (.cells #[.pointer (some ⟨b, 0, none⟩), .int .i64 t, .int .u64 lo, .int .u64 hi, .int .i64 tr, .int .i64 0, .int .i64 0, .int .i64 0, .int .u64 0, .bool false, .func (.func 63) #[] #[.pointer (some ⟨w.heap.size, 0, none⟩)], .map none, .int .u8 2, .int .i64 0] 134 (0, 0)) := hW8 ▸ heap_alloc_new w1 _
  have hs8 : W8.heap[w.heap.size]? = some (.cells #[.int .u64 lo, .int .u64 hi] 28 (0, 0)) := hW8 ▸ alloc_old HB1.out _
  have hk8 : Keep Nil w W8 := hW8 ▸ HK1.out.alloc _
  have sz8 : w1.heap.size < W8.heap.size := lt_of_block hl8
  rw [← hW8]
  clear hW8 x0 x1 HB1 HK1
  have HB := hid (alloc_old hl8 (.map #[] 0))
  have HSB := hid (alloc_old hs8 (.map #[] 0))
  have HKW := hid (hk8.alloc (.map #[] 0))
  have HM := hid (MapAt.new W8)
  have ne1 : w1.heap.size ≠ W8.heap.size := by omega
  have ne2 : w.heap.size ≠ W8.heap.size := by omega
  have SZ := hid (And.intro sz1 sz8)
  clear hl8 hs8 hk8
  go_wp2_with (refine wpList_ins rfl (.tmp 41) _ _ 132 rfl Tryz.underlying132 Tryz.underlying5 _ rfl _ HM.out _ rfl _ rfl rfl ?_; intro wq cq hm hk hz; have HB := hid (hk.at HB.out ne1); have HSB := hid (hk.at HSB.out ne2); have HKW := hid (HKW.out.trans hk (fun q hlt e => by have := SZ.out; omega)); have HM := hid hm; have c11 : wq.cell? ⟨w1.heap.size, 11, none⟩ = some (.map none) := (by rw [cell_of HB.out]; rfl); have f11 : wq.frozen? ⟨w1.heap.size, 11, none⟩ = false := free_of HB.out 11; clear hm hk hz)
  go_ret2
  have kX : Keep (fun k => k = w1.heap.size) wq (wq.setCell ⟨w1.heap.size, 11, none⟩ (.map (some W8.heap.size))) := (Keep.refl (fun k => k = w1.heap.size) wq).setCell (.inl rfl) _
  refine ⟨w1.heap.size, w.heap.size, W8.heap.size, rfl, ⟨set_same HB.out _, kX.at HSB.out (by have := SZ.out; omega), ⟨_, _, _, _, _, _, _, _, HM.out.keep kX (Ne.symm ne1)⟩, by have := SZ.out; omega, Ne.symm ne1⟩, HKW.out.trans kX (fun q hlt e => by have := SZ.out; omega), by have := SZ.out; omega, Nat.le_refl _, by have := SZ.out; omega⟩
theorem knew_nil (t : Int) (v : Value) (hv : ∃ lo hi, v = .agg #[.int .u64 lo, .int .u64 hi]) (tr : Int) : Calls Tryz.prog 12 #[.pointer none, .int .i64 t, v, .int .i64 tr] w fun e w' => e = .returned (.tuple #[.pointer none, .int .i64 1]) ∧ Keep Nil w w' := by
  obtain ⟨lo, hi, rfl⟩ := hv
  go_enter Tryz.func12, Tryz.ntmps12
  go_wp2
  go_ret2
  exact ⟨rfl, Keep.alloc (Keep.refl _ _) _⟩
set_option maxHeartbeats 2000000 in
theorem knew_arg (t lo hi tr : Int) (h : t < 0 ∨ 64 ≤ t ∨ tr < 0 ∨ 255 < tr) : Calls Tryz.prog 12 #[.pointer (some ⟨b, 0, none⟩), .int .i64 t, .agg #[.int .u64 lo, .int .u64 hi], .int .i64 tr] w fun e w' => e = .returned (.tuple #[.pointer none, .int .i64 2]) ∧ Keep Nil w w' := by
  by_cases h1 : t < 0
  · have d1 : decide (t < 0) = true := decide_eq_true h1
    clear h
    go_enter Tryz.func12, Tryz.ntmps12
    go_wp2
    go_ret2
    exact ⟨rfl, Keep.alloc (Keep.refl _ _) _⟩
  · have d1 : decide (t < 0) = false := decide_eq_false h1
    by_cases h2 : 64 ≤ t
    · have d2 : decide (64 ≤ t) = true := decide_eq_true h2
      clear h
      go_enter Tryz.func12, Tryz.ntmps12
      go_wp2
      go_ret2
      exact ⟨rfl, Keep.alloc (Keep.refl _ _) _⟩
    · have d2 : decide (64 ≤ t) = false := decide_eq_false h2
      by_cases h3 : tr < 0
      · have d3 : decide (tr < 0) = true := decide_eq_true h3
        clear h
        go_enter Tryz.func12, Tryz.ntmps12
        go_wp2
        go_ret2
        exact ⟨rfl, Keep.alloc (Keep.refl _ _) _⟩
      · have d3 : decide (tr < 0) = false := decide_eq_false h3
        have d4 : decide (255 < tr) = true := decide_eq_true (by omega)
        clear h
        go_enter Tryz.func12, Tryz.ntmps12
        go_wp2
        go_ret2
        exact ⟨rfl, Keep.alloc (Keep.refl _ _) _⟩
set_option maxHeartbeats 2000000 in
theorem knew_bad (t lo hi tr : Int) (t0 : 0 ≤ t) (t1 : t < 64) (r0 : 0 ≤ tr) (r1 : tr ≤ 255) (hs : hi < lo) : Calls Tryz.prog 12 #[.pointer (some ⟨b, 0, none⟩), .int .i64 t, .agg #[.int .u64 lo, .int .u64 hi], .int .i64 tr] w fun e w' => e = .returned (.tuple #[.pointer none, .int .i64 13]) ∧ Keep Nil w w' := by
  have d1 : decide (t < 0) = false := decide_eq_false (by omega)
  have d2 : decide (64 ≤ t) = false := decide_eq_false (by omega)
  have d3 : decide (tr < 0) = false := decide_eq_false (by omega)
  have d4 : decide (255 < tr) = false := decide_eq_false (by omega)
  go_enter Tryz.func12, Tryz.ntmps12
  go_wp2_with fail
  refine (spanck_ok lo hi 13 (by rw [if_pos hs])).mono ?_
  rintro e w1 ⟨rfl, hk⟩
  have HK1 := hid (show Keep Nil w w1 from ((Keep.refl Nil w).alloc _).trans hk (fun _ _ h => h))
  clear hk
  go_wp2
  go_ret2
  exact ⟨rfl, HK1.out⟩
end
end Go.Proofs.YtmafdjhjmnghcaaGreat
