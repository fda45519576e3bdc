/- pool: Take and Give begin. -/
import Derived.Test.YtjghenomeindcaaGreatPoolSt
set_option linter.unusedVariables false
set_option linter.unusedSimpArgs false
namespace Go.Proofs.YtjghenomeindcaaGreat
open Go.RowKit Go.Lf
def PTkNewTo (w : World) (pb : Nat) (c : Cfg) (o : PO) (e : Ending) (w' : World) : Prop := ∃ tb m, e = .returned (.tuple #[.pointer (some ⟨tb, 0, none⟩), .int .i64 0]) ∧ TkAt w' tb m pb c o ∧ Keep Nil w w' ∧ w.heap.size ≤ tb ∧ w.heap.size ≤ m
def PGvNewTo (w : World) (A : Nat → Prop) (c : Cfg) (pb mb L : Nat) (s' : PSt) (o : PO) (e : Ending) (w' : World) : Prop := ∃ tb m, e = .returned (.tuple #[.pointer (some ⟨tb, 0, none⟩), .int .i64 0]) ∧ (PoolL c pb mb L).lie w' A s' ∧ GvAt w' tb m pb c o ∧ Keep A w w' ∧ w.heap.size ≤ tb ∧ w.heap.size ≤ m
theorem zbool (w : World) : (zeroValue 4).run Tryz.prog w = .ok (.bool false) w := by kernel_rfl
section
variable {w w1 w2 w' : World} {A : Nat → Prop} {c : Cfg} {pb mb L ob gb tb m : Nat} {F G : Nat → Prop} {s s' : PSt} {ws' : List Int} {log' : List Acc} {o o' : PO}
theorem pools_bd (hok : c.ok) : (c.pools : Int) ≤ 65536 := by
  have := words_bd hok
  obtain ⟨-, -, -, -, -, q1, q2, q3, q4⟩ := plc_lt c
  omega
set_option maxRecDepth 100000 in
set_option maxHeartbeats 4000000 in
theorem ptake_ok (h : PA w A c pb mb L ob gb F G s) (hok : c.ok) (th hh tr : Int) (t0 : 0 ≤ th) (t1 : th < 64) (k1 : 1 ≤ hh) (k6 : hh ≤ 6) (r0 : 0 ≤ tr) (r1 : tr ≤ 255) :
    Calls Tryz.prog 35 #[.pointer (some ⟨pb, 0, none⟩), .int .i64 th, .int .i64 hh, .int .i64 tr] w (PTkNewTo w pb c (PO.take th hh.toNat tr)) := by
  have d1 : decide (th < 0) = false := decide_eq_false (by omega)
  have d2 : decide (64 ≤ th) = false := decide_eq_false (by omega)
  have d3 : decide (tr < 0) = false := decide_eq_false (by omega)
  have d4 : decide (255 < tr) = false := decide_eq_false (by omega)
  have d5 : decide (hh < 1) = false := decide_eq_false (by omega)
  have d6 : decide (6 < hh) = false := decide_eq_false (by omega)
  have hpd := pools_bd hok
  have a1 : IntKind.i64.wrap ((c.pools : Int) + hh) = (c.pools : Int) + hh := by rw [IntKind.wrap_i64]; omega
  have a2 : IntKind.i64.wrap ((c.pools : Int) + hh - 1) = (c.pools : Int) + hh - 1 := by rw [IntKind.wrap_i64]; omega
  have hhd : hdOf c (PO.take th hh.toNat tr) = (c.pools : Int) + hh - 1 := by unfold hdOf PO.take; simp only []; omega
  have HHD := hid hhd
  obtain ⟨-, -, p2, -⟩ := h.cells
  have hmm := @run_makeMap Tryz.prog
  clear h hpd hhd
  go_enter Tryz.func35, Tryz.ntmps35
  go_upto_region 8 with fail
  obtain ⟨W8, hW8⟩ : ∃ W8, W8 = w.alloc (.cells #[.pointer (some ⟨pb, 0, none⟩), .int .i64 th, .int .i64 0, .int .i64 ((c.pools : Int) + hh - 1), .int .u64 0, .int .u8 4, .map none, .int .i64 0, .int .i64 0, .int .i64 tr, .int .i64 0] 188) := ⟨_, rfl⟩
  have hl8 : W8.heap[w.heap.size]? = some (.cells #[.pointer (some ⟨pb, 0, none⟩), .int .i64 th, .int .i64 0, .int .i64 ((c.pools : Int) + hh - 1), .int .u64 0, .int .u8 4, .map none, .int .i64 0, .int .i64 0, .int .i64 tr, .int .i64 0] 188 (0, 0)) := hW8 ▸ heap_alloc_new w _
  have hk8 : Keep Nil w W8 := hW8 ▸ (Keep.refl Nil w).alloc _
  have sz8 : w.heap.size < W8.heap.size := lt_of_block hl8
  rw [← hW8]
  clear hW8
  have HB := hid (alloc_old hl8 (.map #[] 0))
  have HKW := hid (hk8.alloc (.map #[] 0))
  have HM := hid (MapAt.new W8)
  have ne1 : w.heap.size ≠ W8.heap.size := by omega
  clear hl8 hk8
  go_wp2_with (refine wpList_ins rfl (.tmp 50) _ _ 186 rfl Tryz.underlying186 Tryz.underlying5 _ rfl _ HM.out _ rfl _ rfl rfl ?_; intro wq cq hm hk hz; have HB := hid (hk.at HB.out ne1); have HKW := hid (HKW.out.trans hk (fun q hlt e => by omega)); have HM := hid hm; have c11 : wq.cell? ⟨w.heap.size, 6, none⟩ = some (.map none) := (by rw [cell_of HB.out]; rfl); have f11 : wq.frozen? ⟨w.heap.size, 6, none⟩ = false := free_of HB.out 6; clear hm hk hz)
  go_ret2
  have kX : Keep (fun k => k = w.heap.size) wq (wq.setCell ⟨w.heap.size, 6, none⟩ (.map (some W8.heap.size))) := (Keep.refl (fun k => k = w.heap.size) wq).setCell (.inl rfl) _
  refine ⟨w.heap.size, W8.heap.size, rfl, ⟨?_, ⟨_, _, _, HM.out.keep kX (Ne.symm ne1)⟩, Ne.symm ne1, rfl⟩, HKW.out.trans kX (fun q hlt e => by omega), Nat.le_refl _, by omega⟩
  rw [set_same HB.out _]
  unfold tkCells
  rw [HHD.out]
  rfl
theorem ptake_nil (a b d : Int) : Calls Tryz.prog 35 #[.pointer none, .int .i64 a, .int .i64 b, .int .i64 d] w fun e w' => e = .returned (.tuple #[.pointer none, .int .i64 1]) ∧ Keep Nil w w' := by
  go_enter Tryz.func35, Tryz.ntmps35
  go_wp2
  go_ret2
  exact ⟨rfl, Keep.refl _ _⟩
set_option maxHeartbeats 2000000 in
theorem ptake_arg (th hh tr : Int) (h : th < 0 ∨ 64 ≤ th ∨ tr < 0 ∨ 255 < tr) : Calls Tryz.prog 35 #[.pointer (some ⟨pb, 0, none⟩), .int .i64 th, .int .i64 hh, .int .i64 tr] w fun e w' => e = .returned (.tuple #[.pointer none, .int .i64 2]) ∧ Keep Nil w w' := by
  by_cases h1 : th < 0
  · have d1 : decide (th < 0) = true := decide_eq_true h1
    clear h
    go_enter Tryz.func35, Tryz.ntmps35
    go_wp2
    go_ret2
    exact ⟨rfl, Keep.refl _ _⟩
  · have d1 : decide (th < 0) = false := decide_eq_false h1
    by_cases h2 : 64 ≤ th
    · have d2 : decide (64 ≤ th) = true := decide_eq_true h2
      clear h
      go_enter Tryz.func35, Tryz.ntmps35
      go_wp2
      go_ret2
      exact ⟨rfl, Keep.refl _ _⟩
    · have d2 : decide (64 ≤ th) = false := decide_eq_false h2
      by_cases h3 : tr < 0
      · have d3 : decide (tr < 0) = true := decide_eq_true h3
        clear h
        go_enter Tryz.func35, Tryz.ntmps35
        go_wp2
        go_ret2
        exact ⟨rfl, Keep.refl _ _⟩
      · have d3 : decide (tr < 0) = false := decide_eq_false h3
        have d4 : decide (255 < tr) = true := decide_eq_true (by omega)
        clear h
        go_enter Tryz.func35, Tryz.ntmps35
        go_wp2
        go_ret2
        exact ⟨rfl, Keep.refl _ _⟩
set_option maxHeartbeats 2000000 in
theorem ptake_range (th hh tr : Int) (t0 : 0 ≤ th) (t1 : th < 64) (r0 : 0 ≤ tr) (r1 : tr ≤ 255) (h : hh < 1 ∨ 6 < hh) : Calls Tryz.prog 35 #[.pointer (some ⟨pb, 0, none⟩), .int .i64 th, .int .i64 hh, .int .i64 tr] w fun e w' => e = .returned (.tuple #[.pointer none, .int .i64 3]) ∧ Keep Nil w w' := by
  have d1 : decide (th < 0) = false := decide_eq_false (by omega)
  have d2 : decide (64 ≤ th) = false := decide_eq_false (by omega)
  have d3 : decide (tr < 0) = false := decide_eq_false (by omega)
  have d4 : decide (255 < tr) = false := decide_eq_false (by omega)
  by_cases h1 : hh < 1
  · have d5 : decide (hh < 1) = true := decide_eq_true h1
    clear h
    go_enter Tryz.func35, Tryz.ntmps35
    go_wp2
    go_ret2
    exact ⟨rfl, Keep.refl _ _⟩
  · have d5 : decide (hh < 1) = false := decide_eq_false h1
    have d6 : decide (6 < hh) = true := decide_eq_true (by omega)
    clear h
    go_enter Tryz.func35, Tryz.ntmps35
    go_wp2
    go_ret2
    exact ⟨rfl, Keep.refl _ _⟩
theorem pgive_nil (a b : Int) : Calls Tryz.prog 37 #[.pointer none, .int .i64 a, .int .i64 b] w fun e w' => e = .returned (.tuple #[.pointer none, .int .i64 1]) ∧ Keep Nil w w' := by
  go_enter Tryz.func37, Tryz.ntmps37
  go_wp2
  go_ret2
  exact ⟨rfl, Keep.refl _ _⟩
set_option maxHeartbeats 2000000 in
theorem pgive_arg (th tw : Int) (h : th < 0 ∨ 64 ≤ th) : Calls Tryz.prog 37 #[.pointer (some ⟨pb, 0, none⟩), .int .i64 th, .int .i64 tw] w fun e w' => e = .returned (.tuple #[.pointer none, .int .i64 2]) ∧ Keep Nil w w' := by
  by_cases h1 : th < 0
  · have d1 : decide (th < 0) = true := decide_eq_true h1
    clear h
    go_enter Tryz.func37, Tryz.ntmps37
    go_wp2
    go_ret2
    exact ⟨rfl, Keep.refl _ _⟩
  · have d1 : decide (th < 0) = false := decide_eq_false h1
    have d2 : decide (64 ≤ th) = true := decide_eq_true (by omega)
    clear h
    go_enter Tryz.func37, Tryz.ntmps37
    go_wp2
    go_ret2
    exact ⟨rfl, Keep.refl _ _⟩
set_option maxHeartbeats 4000000 in
theorem pgive_range (h : PA w A c pb mb L ob gb F G s) (th tw : Int) (t0 : 0 ≤ th) (t1 : th < 64) (ht : tw < 1 ∨ (c.nT : Int) < tw) : Calls Tryz.prog 37 #[.pointer (some ⟨pb, 0, none⟩), .int .i64 th, .int .i64 tw] w fun e w' => e = .returned (.tuple #[.pointer none, .int .i64 3]) ∧ Keep Nil w w' := by
  have d1 : decide (th < 0) = false := decide_eq_false (by omega)
  have d2 : decide (64 ≤ th) = false := decide_eq_false (by omega)
  obtain ⟨-, p1, -⟩ := h.cells
  have HL := hid h.lay.at_
  have HT := hid ht
  clear h ht
  go_enter Tryz.func37, Tryz.ntmps37
  go_wp2_with fail
  refine (height_bad HL.out tw HT.out).mono ?_
  rintro e w9 ⟨rfl, rfl⟩
  go_wp2
  go_ret2
  exact ⟨rfl, Keep.refl _ _⟩
set_option maxHeartbeats 4000000 in
theorem pgive_state (h : PA w A c pb mb L ob gb F G s) (hok : c.ok) (th tw : Int) (t0 : 0 ≤ th) (t1 : th < 64) (g1 : 1 ≤ tw) (g2 : tw ≤ c.nT) (hs : s.out tw ≠ some false) : Calls Tryz.prog 37 #[.pointer (some ⟨pb, 0, none⟩), .int .i64 th, .int .i64 tw] w fun e w' => e = .returned (.tuple #[.pointer none, .int .i64 8]) ∧ Keep Nil w w' := by
  have d1 : decide (th < 0) = false := decide_eq_false (by omega)
  have d2 : decide (64 ≤ th) = false := decide_eq_false (by omega)
  obtain ⟨-, p1, -, -, p4, -⟩ := h.cells
  obtain ⟨l, im, nd, hml⟩ := h.out
  have HL := hid h.lay.at_
  have hlk := look_ok im Tryz.underlying177 Tryz.underlying3 (zbool w) tw
  rw [hml] at hlk
  obtain ⟨x, hx⟩ : ∃ x, c.hs[tw.toNat - 1]? = some x := ⟨_, List.getElem?_eq_getElem (by have : c.nT = c.hs.length := rfl; omega)⟩
  have HHT := hid (height_ok h.lay.at_ hok hx tw (by omega))
  clear h im hml nd hx
  cases ho : s.out tw with
  | none =>
    rw [ho] at hlk
    simp only [Option.map_none, Option.getD_none, Option.isSome_none] at hlk
    clear hs ho
    go_enter Tryz.func37, Tryz.ntmps37
    go_wp2_with fail
    refine HHT.out.mono ?_
    rintro e w9 ⟨rfl, rfl⟩
    go_wp2
    go_ret2
    exact ⟨rfl, Keep.refl _ _⟩
  | some b =>
    cases b with
    | false => exact absurd ho hs
    | true =>
      rw [ho] at hlk
      simp only [Option.map_some, Option.getD_some, Option.isSome_some] at hlk
      clear hs ho
      go_enter Tryz.func37, Tryz.ntmps37
      go_wp2_with fail
      refine HHT.out.mono ?_
      rintro e w9 ⟨rfl, rfl⟩
      go_wp2
      go_ret2
      exact ⟨rfl, Keep.refl _ _⟩
set_option maxRecDepth 100000 in
set_option maxHeartbeats 4000000 in
theorem pgive_ok (h : PA w A c pb mb L ob gb F G s) (hok : c.ok) (th tw : Int) (t0 : 0 ≤ th) (t1 : th < 64) (g1 : 1 ≤ tw) (g2 : tw ≤ c.nT) (hs : s.out tw = some false) (k : Nat) (hk : c.hs[tw.toNat - 1]? = some k) :
    Calls Tryz.prog 37 #[.pointer (some ⟨pb, 0, none⟩), .int .i64 th, .int .i64 tw] w (PGvNewTo w A c pb mb L { s with out := pup s.out tw (some true) } (PO.give th k tw)) := by
  have d1 : decide (th < 0) = false := decide_eq_false (by omega)
  have d2 : decide (64 ≤ th) = false := decide_eq_false (by omega)
  obtain ⟨-, p1, p2, -, p4, -⟩ := h.cells
  obtain ⟨l, im, nd, hml⟩ := h.out
  have hlk := look_ok im Tryz.underlying177 Tryz.underlying3 (zbool w) tw
  rw [hml, hs] at hlk
  simp only [Option.map_some, Option.getD_some, Option.isSome_some] at hlk
  have HHT := hid (height_ok h.lay.at_ hok hk tw (by omega))
  obtain ⟨W3, hrun, hm3, k3, z3⟩ := put_run im Tryz.underlying177 Tryz.underlying3 tw (.bool true)
  have H3 := hid (h.outs (out' := pup s.out tw (some true)) k3 ⟨_, hm3, mkeys_put_nodup nd _ _, fun k => by
      rw [mlook_put, hml]
      by_cases e : k = tw
      · rw [if_pos e, e, pup_me]; rfl
      · rw [if_neg e, pup_ne e]⟩)
  have HAO := hid ((h.foot ob).2 (.inr (.inl rfl)))
  obtain ⟨-, -, q2, -, -, -⟩ := H3.out.cells
  have hk6 := hok.hs k (List.mem_of_getElem? hk)
  have hpd := pools_bd hok
  have a1 : IntKind.i64.wrap ((c.pools : Int) + (k : Int)) = (c.pools : Int) + (k : Int) := by rw [IntKind.wrap_i64]; omega
  have a2 : IntKind.i64.wrap ((c.pools : Int) + (k : Int) - 1) = (c.pools : Int) + (k : Int) - 1 := by rw [IntKind.wrap_i64]; omega
  have HHD := hid (show hdOf c (PO.give th k tw) = (c.pools : Int) + (k : Int) - 1 by unfold hdOf PO.give; simp only []; omega)
  have hmm := @run_makeMap Tryz.prog
  have HK3 := hid k3
  have HZ := hid z3
  have HLT := hid h.lt
  clear h im hml nd hs hk hm3 k3 z3 hpd hk6 g1 g2
  go_enter Tryz.func37, Tryz.ntmps37
  go_wp2_with fail
  refine HHT.out.mono ?_
  rintro e w9 ⟨rfl, rfl⟩
  go_upto_region 13 with fail
  obtain ⟨W8, hW8⟩ : ∃ W8, W8 = W3.alloc (.cells #[.pointer (some ⟨pb, 0, none⟩), .int .i64 th, .int .i64 tw, .int .i64 ((c.pools : Int) + (k : Int) - 1), .int .u64 0, .int .u8 4, .map none] 196) := ⟨_, rfl⟩
  have hl8 : W8.heap[W3.heap.size]? = some (.cells #[.pointer (some ⟨pb, 0, none⟩), .int .i64 th, .int .i64 tw, .int .i64 ((c.pools : Int) + (k : Int) - 1), .int .u64 0, .int .u8 4, .map none] 196 (0, 0)) := hW8 ▸ heap_alloc_new W3 _
  have hk8 : Keep Nil W3 W8 := hW8 ▸ (Keep.refl Nil W3).alloc _
  have sz8 : W3.heap.size < W8.heap.size := lt_of_block hl8
  rw [← hW8]
  clear hW8 hlk hrun p1 p2 p4 q2
  have HB := hid (alloc_old hl8 (.map #[] 0))
  have HKW := hid (hk8.alloc (.map #[] 0))
  have HM := hid (MapAt.new W8)
  have ne1 : W3.heap.size ≠ W8.heap.size := by omega
  clear hl8 hk8
  go_wp2_with (refine wpList_ins rfl (.tmp 66) _ _ 194 rfl Tryz.underlying194 Tryz.underlying5 _ rfl _ HM.out _ rfl _ rfl rfl ?_; intro wq cq hm hk hz; have HB := hid (hk.at HB.out ne1); have HKW := hid (HKW.out.trans hk (fun q hlt e => by omega)); have HM := hid hm; have c11 : wq.cell? ⟨W3.heap.size, 6, none⟩ = some (.map none) := (by rw [cell_of HB.out]; rfl); have f11 : wq.frozen? ⟨W3.heap.size, 6, none⟩ = false := free_of HB.out 6; clear hm hk hz)
  go_ret2
  have kX : Keep (fun k => k = W3.heap.size) wq (wq.setCell ⟨W3.heap.size, 6, none⟩ (.map (some W8.heap.size))) := (Keep.refl (fun k => k = W3.heap.size) wq).setCell (.inl rfl) _
  have kN : Keep Nil W3 (wq.setCell ⟨W3.heap.size, 6, none⟩ (.map (some W8.heap.size))) := HKW.out.trans kX (fun q hlt e => by omega)
  refine ⟨W3.heap.size, W8.heap.size, rfl, ⟨ob, gb, F, G, H3.out.quiet kN⟩, ⟨?_, ⟨_, _, _, HM.out.keep kX (Ne.symm ne1)⟩, Ne.symm ne1, rfl⟩, (HK3.out.mono (T := A) (fun q _ e => e ▸ HAO.out)).trans kN (fun _ _ h => h.elim), by have := HZ.out; omega, by have := HZ.out; omega⟩
  rw [set_same HB.out _]
  unfold gvCells
  rw [HHD.out]
  rfl
end
end Go.Proofs.YtjghenomeindcaaGreat
