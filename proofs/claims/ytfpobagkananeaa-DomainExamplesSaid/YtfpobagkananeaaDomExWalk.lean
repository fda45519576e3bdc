/- DomainExamples: the walk. -/
import Derived.Test.YtfpobagkananeaaDomBk2
import Derived.Test.YtfpobagkananeaaDomLaws
set_option linter.unusedVariables false
set_option linter.unusedSimpArgs false
namespace Go.Lf
def dM : Dom := ⟨2, 4, []⟩
def dC : Dom := ⟨3, 0, [5, 9]⟩
theorem asc59 : AscTo [5, 9] 2 := fun i hi => by
  have : i = 0 ∨ i = 1 := by omega
  rcases this with rfl | rfl <;> decide
theorem dM_ok : dM.ok := .inr (.inl ⟨rfl, by decide, rfl⟩)
theorem dC_ok : dC.ok := .inr (.inr ⟨rfl, rfl, by decide, asc59⟩)
theorem d3_ok : (Dom.mk 2 3 []).ok := .inr (.inl ⟨rfl, by decide, rfl⟩)
theorem topM : ∀ y ∈ dM.cuts, y ≤ topU := fun y hy => by cases hy
theorem topC : ∀ y ∈ dC.cuts, y ≤ topU := fun y hy => by
  have : y = 5 ∨ y = 9 := by simpa [dC] using hy
  unfold topU
  omega
end Go.Lf
namespace Go.Proofs.Ytfpobagkananeaa
open Go.RowKit Go.Lf
structure DexAt (w W : World) (s : Nat) : Prop where
  own : Keep Nil w W
  row : W.heap[s]? = some (.cells (u64s [5, 9]).toArray 22 (0, 0))
  hm : W.heap[s + 1]? = some (.cells #[.int .u8 2, .int .i64 4, .slice none 0 0] 32 (0, 0))
  hc : W.heap[s + 1 + 1]? = some (.cells #[.int .u8 3, .int .i64 0, .slice (some ⟨s, 0, none⟩) 2 2] 32 (0, 0))
section
variable {w W W' : World} {s : Nat}
theorem DexAt.keep (h : DexAt w W s) (hk : Keep Nil W W') : DexAt w W' s :=
  ⟨h.own.trans hk (fun _ _ h => h), hk.at h.row (fun h => h), hk.at h.hm (fun h => h), hk.at h.hc (fun h => h)⟩
theorem DexAt.m (h : DexAt w W s) : W.cell? ⟨s + 1, 0, none⟩ = some (.int .u8 2) ∧ W.cell? ⟨s + 1, 1, none⟩ = some (.int .i64 4) ∧ W.cell? ⟨s + 1, 2, none⟩ = some (.slice none 0 0) := by
  refine ⟨?_, ?_, ?_⟩ <;> (rw [cell_of h.hm]; rfl)
theorem DexAt.c (h : DexAt w W s) : W.cell? ⟨s + 1 + 1, 0, none⟩ = some (.int .u8 3) ∧ W.cell? ⟨s + 1 + 1, 1, none⟩ = some (.int .i64 0) ∧ W.cell? ⟨s + 1 + 1, 2, none⟩ = some (.slice (some ⟨s, 0, none⟩) 2 2) := by
  refine ⟨?_, ?_, ?_⟩ <;> (rw [cell_of h.hc]; rfl)
theorem DexAt.rd (h : DexAt w W s) : Rd W 1 (.slice (some ⟨s, 0, none⟩) 2 2) 2 (u64s [5, 9]) := rd_of_heap (size := 1) h.row rfl
theorem rd_nil (W : World) : Rd W 1 (.slice none 0 0) 0 (u64s []) := ⟨none, 0, rfl, rfl, .inl ⟨rfl, rfl, rfl⟩⟩
/-- The rows of what is no map. -/
structure BadAt (W : World) (b1 b2 b3 b4 : Nat) : Prop where
  r1 : W.heap[b1]? = some (.cells (u64s [5, 5]).toArray 22 (0, 0))
  r2 : W.heap[b2]? = some (.cells (u64s [0]).toArray 22 (0, 0))
  r3 : W.heap[b3]? = some (.cells (u64s [1]).toArray 22 (0, 0))
  r4 : W.heap[b4]? = some (.cells #[.int .u8 0, .int .i64 0, .slice none 0 0, .int .u8 2, .int .i64 65, .slice none 0 0, .int .u8 2, .int .i64 0, .slice none 0 0, .int .u8 3, .int .i64 0, .slice (some ⟨b1, 0, none⟩) 2 2, .int .u8 3, .int .i64 0, .slice (some ⟨b2, 0, none⟩) 1 1, .int .u8 3, .int .i64 0, .slice none 0 0, .int .u8 1, .int .i64 1, .slice none 0 0, .int .u8 2, .int .i64 2, .slice (some ⟨b3, 0, none⟩) 1 1, .int .u8 4, .int .i64 0, .slice none 0 0] 32 (0, 0))
theorem BadAt.keep {b1 b2 b3 b4 : Nat} (h : BadAt W b1 b2 b3 b4) (hk : Keep Nil W W') : BadAt W' b1 b2 b3 b4 :=
  ⟨hk.at h.r1 (fun h => h), hk.at h.r2 (fun h => h), hk.at h.r3 (fun h => h), hk.at h.r4 (fun h => h)⟩
theorem BadAt.dom {b1 b2 b3 b4 : Nat} (h : BadAt W b1 b2 b3 b4) {k : Nat} (hk : k < 9) : ∃ (d : Dom) (a : Option Addr) (c : Nat), ¬ d.ok ∧ Rd W 1 (.slice a d.cuts.length c) d.cuts.length (u64s d.cuts) ∧
    W.cell? ⟨b4, k * 3, none⟩ = some (.int .u8 d.k) ∧ W.cell? ⟨b4, k * 3 + 1, none⟩ = some (.int .i64 d.n) ∧ W.cell? ⟨b4, k * 3 + 2, none⟩ = some (.slice a d.cuts.length c) := by
  have : k = 0 ∨ k = 1 ∨ k = 2 ∨ k = 3 ∨ k = 4 ∨ k = 5 ∨ k = 6 ∨ k = 7 ∨ k = 8 := by omega
  have cl : ∀ i, W.cell? ⟨b4, i, none⟩ = _ := fun i => cell_of h.r4 i
  rcases this with rfl | rfl | rfl | rfl | rfl | rfl | rfl | rfl | rfl
  · exact ⟨⟨0, 0, []⟩, none, 0, Dom.bad4 (by decide), rd_nil W, cl _, cl _, cl _⟩
  · exact ⟨⟨2, 65, []⟩, none, 0, Dom.bad2 (by decide), rd_nil W, cl _, cl _, cl _⟩
  · exact ⟨⟨2, 0, []⟩, none, 0, Dom.bad2 (by decide), rd_nil W, cl _, cl _, cl _⟩
  · exact ⟨⟨3, 0, [5, 5]⟩, some ⟨b1, 0, none⟩, 2, Dom.bad3 ⟨rfl, .inr (.inr (.inr (Dom.bad_asc (i := 1) (by decide) (by decide))))⟩, rd_of_heap (size := 1) h.r1 rfl, cl _, cl _, cl _⟩
  · exact ⟨⟨3, 0, [0]⟩, some ⟨b2, 0, none⟩, 1, Dom.bad3 ⟨rfl, .inr (.inr (.inr (Dom.bad_asc (i := 0) (by decide) (by decide))))⟩, rd_of_heap (size := 1) h.r2 rfl, cl _, cl _, cl _⟩
  · exact ⟨⟨3, 0, []⟩, none, 0, Dom.bad3 ⟨rfl, .inr (.inl (by decide))⟩, rd_nil W, cl _, cl _, cl _⟩
  · exact ⟨⟨1, 1, []⟩, none, 0, Dom.bad1 (by decide), rd_nil W, cl _, cl _, cl _⟩
  · exact ⟨⟨2, 2, [1]⟩, some ⟨b3, 0, none⟩, 1, Dom.bad2 (by decide), rd_of_heap (size := 1) h.r3 rfl, cl _, cl _, cl _⟩
  · exact ⟨⟨4, 0, []⟩, none, 0, Dom.bad4 (by decide), rd_nil W, cl _, cl _, cl _⟩

/-! The calls. -/
theorem dex_of3 : Calls Try.prog 18 #[.agg #[.int .u8 2, .int .i64 3, .slice none 0 0], .int .u64 7] W fun e w' => e = .returned (.tuple #[.int .i64 1, .int .i64 0]) ∧ Keep Nil W w' :=
  of_ok (a := none) (c := 0) ⟨2, 3, []⟩ d3_ok (rd_nil W) (by decide) 7 (by decide) (by decide)
theorem dex_ofC (h : DexAt w W s) (key : Int) (n : Int) (k0 : 0 ≤ key) (k1 : key ≤ topU) (hn : ((dC.of key : Nat) : Int) = n) : Calls Try.prog 18 #[.agg #[.int .u8 3, .int .i64 0, .slice (some ⟨s, 0, none⟩) 2 2], .int .u64 key] W fun e w' => e = .returned (.tuple #[.int .i64 n, .int .i64 0]) ∧ Keep Nil W w' := by
  rw [← hn]
  exact of_ok (a := some ⟨s, 0, none⟩) (c := 2) dC dC_ok h.rd (by decide) key k0 k1
theorem dex_imM (lo hi n : Int) (hs : lo ≤ hi) (h0 : 0 ≤ lo) (h1 : hi ≤ topU) (hn : ((dM.img lo hi : Nat) : Int) = n) : Calls Try.prog 26 #[.agg #[.int .u8 2, .int .i64 4, .slice none 0 0], .agg #[.int .u64 lo, .int .u64 hi]] W fun e w' => e = .returned (.tuple #[.int .u64 n, .int .i64 0]) ∧ Keep Nil W w' := by
  rw [← hn]
  exact image_ok (a := none) (c := 0) dM dM_ok (rd_nil W) (by decide) topM lo hi hs h0 h1
theorem dex_imS : Calls Try.prog 26 #[.agg #[.int .u8 2, .int .i64 4, .slice none 0 0], .agg #[.int .u64 2, .int .u64 1]] W fun e w' => e = .returned (.tuple #[.int .u64 0, .int .i64 13]) ∧ Keep Nil W w' :=
  image_span (a := none) (c := 0) dM dM_ok (rd_nil W) (by decide) 2 1 (by decide)
theorem dex_imC (h : DexAt w W s) : Calls Try.prog 26 #[.agg #[.int .u8 3, .int .i64 0, .slice (some ⟨s, 0, none⟩) 2 2], .agg #[.int .u64 3, .int .u64 5]] W fun e w' => e = .returned (.tuple #[.int .u64 3, .int .i64 0]) ∧ Keep Nil W w' :=
  image_ok (a := some ⟨s, 0, none⟩) (c := 2) dC dC_ok h.rd (by decide) topC 3 5 (by decide) (by decide) (by decide)
theorem dex_leM (x : Int) (v : Value) (h0 : 0 ≤ x) (h1 : x ≤ topU) (hv : leastV3 (dM.least 1 x) = v) : Calls Try.prog 24 #[.agg #[.int .u8 2, .int .i64 4, .slice none 0 0], .int .i64 1, .int .u64 x] W fun e w' => e = .returned v ∧ Keep Nil W w' := by
  rw [← hv]
  exact Least_ok (a := none) (c := 0) dM dM_ok (rd_nil W) (by decide) topM 1 (by decide) x h0 h1
theorem dex_leC (h : DexAt w W s) (x : Int) (v : Value) (h0 : 0 ≤ x) (h1 : x ≤ topU) (hv : leastV3 (dC.least 1 x) = v) : Calls Try.prog 24 #[.agg #[.int .u8 3, .int .i64 0, .slice (some ⟨s, 0, none⟩) 2 2], .int .i64 1, .int .u64 x] W fun e w' => e = .returned v ∧ Keep Nil W w' := by
  rw [← hv]
  exact Least_ok (a := some ⟨s, 0, none⟩) (c := 2) dC dC_ok h.rd (by decide) topC 1 (by decide) x h0 h1
theorem dex_leR (h : DexAt w W s) : Calls Try.prog 24 #[.agg #[.int .u8 3, .int .i64 0, .slice (some ⟨s, 0, none⟩) 2 2], .int .i64 3, .int .u64 9] W fun e w' => e = .returned (.tuple #[.int .u64 0, .bool false, .int .i64 3]) ∧ Keep Nil W w' :=
  Least_range (a := some ⟨s, 0, none⟩) (c := 2) dC dC_ok h.rd (by decide) 3 9 (by decide)
theorem dex_set (W : World) : Calls Try.prog 13 #[.slice (some ⟨W.heap.size, 0, none⟩) 3 3] (W.alloc (.cells #[.int .i64 3, .int .i64 0, .int .i64 3] 3)) fun e w' => e = .returned (.tuple #[.int .u64 9, .int .i64 0]) ∧ W.alloc (.cells #[.int .i64 3, .int .i64 0, .int .i64 3] 3) = w' :=
  set_ok (a := some ⟨W.heap.size, 0, none⟩) (c := 3) [3, 0, 3] (rd_of_heap (size := 1) (cs := i64s [3, 0, 3]) (heap_alloc_new W _) rfl) (by decide) (by intro v hv; simp at hv; omega)
theorem dex_set64 (W : World) : Calls Try.prog 13 #[.slice (some ⟨W.heap.size, 0, none⟩) 1 1] (W.alloc (.cells #[.int .i64 64] 3)) fun e w' => e = .returned (.tuple #[.int .u64 0, .int .i64 3]) ∧ W.alloc (.cells #[.int .i64 64] 3) = w' :=
  set_bad (a := some ⟨W.heap.size, 0, none⟩) (c := 1) [64] (rd_of_heap (size := 1) (cs := i64s [64]) (heap_alloc_new W _) rfl) (by decide) (by intro h; have := h 64 (by simp); omega)
theorem bkts92 : bkts 9 2 = [0, 1] := by rfl
theorem mems9 : mems 9 64 = [0, 3] := by rfl
theorem dex_bkts (W : World) : Calls Try.prog 28 #[.int .u64 9, .int .i64 2] W (BktsTo W [0, 1]) := by
  have h := buckets_ok 9 2 (by decide) (by decide) (by decide) W
  rw [bkts92] at h
  exact h
theorem dex_mems (W : World) : Calls Try.prog 12 #[.int .u64 9] W (NumsTo W [0, 3]) := by
  have h := members_any 9 (by decide) W
  rw [mems9] at h
  exact h
theorem dex_same {v : Value} {W : World} {x y : Int} (h : Rd W 1 v 2 (i64s [x, y])) : Calls Try.prog 33 #[v, .slice (some ⟨W.heap.size, 0, none⟩) 2 2] (W.alloc (.cells #[.int .i64 x, .int .i64 y] 3)) fun e w' => e = .returned (.bool true) ∧ Keep Nil (W.alloc (.cells #[.int .i64 x, .int .i64 y] 3)) w' :=
  same_yes v _ [x, y] _ (rd_keep h ((Keep.refl Nil W).alloc _) (fun _ _ h => h)) (rd_of_heap (size := 1) (cs := i64s [x, y]) (heap_alloc_new W _) rfl) (by simp)
theorem dex_bk9 (W : World) : Calls Try.prog 29 #[.int .i64 9, .int .i64 0] W fun e w' => e = .returned (.tuple #[.int .i64 0, .int .i64 2]) ∧ W = w' := bucket_err 9 0 (by decide)
theorem dex_bk64 (W : World) : Calls Try.prog 29 #[.int .i64 64, .int .i64 4] W fun e w' => e = .returned (.tuple #[.int .i64 0, .int .i64 3]) ∧ W = w' := bucket_err 64 4 (by decide)
set_option maxRecDepth 100000 in
set_option maxHeartbeats 6000000 in
theorem walk_dex (w : World) : Calls Try.prog 11 #[] w fun e w' => e = .returned (.bool true) ∧ Keep Nil w w' := by
  go_enter Try.func11, Try.ntmps11
  go_wp2_with fail
  have hd0 : DexAt w (((w.alloc (.cells #[.int .u64 5, .int .u64 9] 22)).alloc (.cells #[.int .u8 2, .int .i64 4, .slice none 0 0] 32)).alloc (.cells #[.int .u8 3, .int .i64 0, .slice (some ⟨w.heap.size, 0, none⟩) 2 2] 32)) w.heap.size := by
    have h1 := heap_alloc_new w (.cells #[.int .u64 5, .int .u64 9] 22)
    have h2 := heap_alloc_new (w.alloc (.cells #[.int .u64 5, .int .u64 9] 22)) (.cells #[.int .u8 2, .int .i64 4, .slice none 0 0] 32)
    have h3 := heap_alloc_new ((w.alloc (.cells #[.int .u64 5, .int .u64 9] 22)).alloc (.cells #[.int .u8 2, .int .i64 4, .slice none 0 0] 32)) (.cells #[.int .u8 3, .int .i64 0, .slice (some ⟨w.heap.size, 0, none⟩) 2 2] 32)
    simp only [World.size_alloc] at h2 h3
    exact ⟨(((Keep.refl Nil w).alloc _).alloc _).alloc _, alloc_old (alloc_old h1 _) _, alloc_old h2 _, h3⟩
  obtain ⟨W0, hW⟩ : ∃ W0, W0 = ((w.alloc (.cells #[.int .u64 5, .int .u64 9] 22)).alloc (.cells #[.int .u8 2, .int .i64 4, .slice none 0 0] 32)).alloc (.cells #[.int .u8 3, .int .i64 0, .slice (some ⟨w.heap.size, 0, none⟩) 2 2] 32) := ⟨_, rfl⟩
  rw [← hW] at hd0 ⊢
  clear hW
  have D0 := hid hd0
  clear hd0
  generalize w.heap.size = s at *
  refine dex_of3.mono ?_
  rintro e w1 ⟨rfl, k1⟩
  have D1 := hid (D0.out.keep k1)
  clear k1 D0
  obtain ⟨c0, c1, c2⟩ := D1.out.c
  go_wp2_with fail
  refine (dex_ofC D1.out 4 0 (by decide) (by decide) rfl).mono ?_
  rintro e w2 ⟨rfl, k2⟩
  have D2 := hid (D1.out.keep k2)
  clear k2 D1 c0 c1 c2
  obtain ⟨c0, c1, c2⟩ := D2.out.c
  go_wp2_with fail
  refine (dex_ofC D2.out 5 1 (by decide) (by decide) rfl).mono ?_
  rintro e w3 ⟨rfl, k3⟩
  have D3 := hid (D2.out.keep k3)
  clear k3 D2 c0 c1 c2
  obtain ⟨c0, c1, c2⟩ := D3.out.c
  go_wp2_with fail
  refine (dex_ofC D3.out 100 2 (by decide) (by decide) rfl).mono ?_
  rintro e w4 ⟨rfl, k4⟩
  have D4 := hid (D3.out.keep k4)
  clear k4 D3 c0 c1 c2
  go_wp2
  have hb0 : BadAt ((((w4.alloc (.cells #[.int .u64 5, .int .u64 5] 22)).alloc (.cells #[.int .u64 0] 22)).alloc (.cells #[.int .u64 1] 22)).alloc (.cells #[.int .u8 0, .int .i64 0, .slice none 0 0, .int .u8 2, .int .i64 65, .slice none 0 0, .int .u8 2, .int .i64 0, .slice none 0 0, .int .u8 3, .int .i64 0, .slice (some ⟨w4.heap.size, 0, none⟩) 2 2, .int .u8 3, .int .i64 0, .slice (some ⟨w4.heap.size + 1, 0, none⟩) 1 1, .int .u8 3, .int .i64 0, .slice none 0 0, .int .u8 1, .int .i64 1, .slice none 0 0, .int .u8 2, .int .i64 2, .slice (some ⟨w4.heap.size + 1 + 1, 0, none⟩) 1 1, .int .u8 4, .int .i64 0, .slice none 0 0] 32)) w4.heap.size (w4.heap.size + 1) (w4.heap.size + 1 + 1) (w4.heap.size + 1 + 1 + 1) := by
    have h1 := heap_alloc_new w4 (.cells #[.int .u64 5, .int .u64 5] 22)
    have h2 := heap_alloc_new (w4.alloc (.cells #[.int .u64 5, .int .u64 5] 22)) (.cells #[.int .u64 0] 22)
    have h3 := heap_alloc_new ((w4.alloc (.cells #[.int .u64 5, .int .u64 5] 22)).alloc (.cells #[.int .u64 0] 22)) (.cells #[.int .u64 1] 22)
    have h4 := heap_alloc_new (((w4.alloc (.cells #[.int .u64 5, .int .u64 5] 22)).alloc (.cells #[.int .u64 0] 22)).alloc (.cells #[.int .u64 1] 22)) (.cells #[.int .u8 0, .int .i64 0, .slice none 0 0, .int .u8 2, .int .i64 65, .slice none 0 0, .int .u8 2, .int .i64 0, .slice none 0 0, .int .u8 3, .int .i64 0, .slice (some ⟨w4.heap.size, 0, none⟩) 2 2, .int .u8 3, .int .i64 0, .slice (some ⟨w4.heap.size + 1, 0, none⟩) 1 1, .int .u8 3, .int .i64 0, .slice none 0 0, .int .u8 1, .int .i64 1, .slice none 0 0, .int .u8 2, .int .i64 2, .slice (some ⟨w4.heap.size + 1 + 1, 0, none⟩) 1 1, .int .u8 4, .int .i64 0, .slice none 0 0] 32)
    simp only [World.size_alloc] at h2 h3 h4
    exact ⟨alloc_old (alloc_old (alloc_old h1 _) _) _, alloc_old (alloc_old h2 _) _, alloc_old h3 _, h4⟩
  have hd5 : DexAt w ((((w4.alloc (.cells #[.int .u64 5, .int .u64 5] 22)).alloc (.cells #[.int .u64 0] 22)).alloc (.cells #[.int .u64 1] 22)).alloc (.cells #[.int .u8 0, .int .i64 0, .slice none 0 0, .int .u8 2, .int .i64 65, .slice none 0 0, .int .u8 2, .int .i64 0, .slice none 0 0, .int .u8 3, .int .i64 0, .slice (some ⟨w4.heap.size, 0, none⟩) 2 2, .int .u8 3, .int .i64 0, .slice (some ⟨w4.heap.size + 1, 0, none⟩) 1 1, .int .u8 3, .int .i64 0, .slice none 0 0, .int .u8 1, .int .i64 1, .slice none 0 0, .int .u8 2, .int .i64 2, .slice (some ⟨w4.heap.size + 1 + 1, 0, none⟩) 1 1, .int .u8 4, .int .i64 0, .slice none 0 0] 32)) s := D4.out.keep (((((Keep.refl Nil w4).alloc _).alloc _).alloc _).alloc _)
  obtain ⟨W5, hW⟩ : ∃ W5, W5 = ((((w4.alloc (.cells #[.int .u64 5, .int .u64 5] 22)).alloc (.cells #[.int .u64 0] 22)).alloc (.cells #[.int .u64 1] 22)).alloc (.cells #[.int .u8 0, .int .i64 0, .slice none 0 0, .int .u8 2, .int .i64 65, .slice none 0 0, .int .u8 2, .int .i64 0, .slice none 0 0, .int .u8 3, .int .i64 0, .slice (some ⟨w4.heap.size, 0, none⟩) 2 2, .int .u8 3, .int .i64 0, .slice (some ⟨w4.heap.size + 1, 0, none⟩) 1 1, .int .u8 3, .int .i64 0, .slice none 0 0, .int .u8 1, .int .i64 1, .slice none 0 0, .int .u8 2, .int .i64 2, .slice (some ⟨w4.heap.size + 1 + 1, 0, none⟩) 1 1, .int .u8 4, .int .i64 0, .slice none 0 0] 32)) := ⟨_, rfl⟩
  rw [← hW] at hb0 hd5 ⊢
  clear hW D4
  have B5 := hid hb0
  have D5 := hid hd5
  clear hb0 hd5
  generalize w4.heap.size = b1 at *
  obtain ⟨b4, hb4⟩ : ∃ b4, b4 = b1 + 1 + 1 + 1 := ⟨_, rfl⟩
  rw [← hb4] at B5 ⊢
  clear hb4
  obtain ⟨b3, hb3⟩ : ∃ b3, b3 = b1 + 1 + 1 := ⟨_, rfl⟩
  rw [← hb3] at B5 ⊢
  clear hb3
  obtain ⟨b2, hb2⟩ : ∃ b2, b2 = b1 + 1 := ⟨_, rfl⟩
  rw [← hb2] at B5 ⊢
  clear hb2
  go_loopw [96] (fun i wr => ∃ k : Nat, k ≤ 9 ∧ i = .int .i64 k ∧ Hid (DexAt w wr s ∧ BadAt wr b1 b2 b3 b4)) (fun i _ => 9 - (intOf i).toNat)
  case atStart => exact ⟨0, by decide, rfl, hid ⟨D5.out, B5.out⟩⟩
  case round =>
    clear D5 B5
    obtain ⟨k, hk, rfl, HH⟩ := hrel
    by_cases hlt : k < 9
    · obtain ⟨d, a, c, hno, hrd, c0, c1, c2⟩ := HH.out.2.dom hlt
      have HRD := hid hrd
      have HNO := hid hno
      clear hrd hno
      go_wp2_with fail
      refine (check_all d (rd_keep HRD.out ((Keep.refl Nil wr).alloc _) (fun _ _ h => h))).mono ?_
      rintro e w6 ⟨rfl, k6⟩
      rw [Dom.err_bad HNO.out]
      have HN := hid (show DexAt w w6 s ∧ BadAt w6 b1 b2 b3 b4 from ⟨HH.out.1.keep (((Keep.refl Nil wr).alloc _).trans k6 (fun _ _ h => h)), HH.out.2.keep (((Keep.refl Nil wr).alloc _).trans k6 (fun _ _ h => h))⟩)
      clear k6 HH HRD HNO c0 c1 c2
      go_wp2
      go_roundw
      case rel => exact ⟨k + 1, by omega, by go_num, HN⟩
      case measure => simp [intOf]; omega
    · have hk9 : k = 9 := by omega
      subst hk9
      have D6 := hid HH.out.1
      clear HH hk hlt
      obtain ⟨c0, c1, c2⟩ := D6.out.m
      go_wp2_with fail
      refine (dex_imM 6 7 12 (by decide) (by decide) (by decide) rfl).mono ?_
      rintro e w7 ⟨rfl, kk⟩
      have D7 := hid (D6.out.keep kk)
      clear kk D6 c0 c1 c2
      obtain ⟨c0, c1, c2⟩ := D7.out.m
      go_wp2_with fail
      refine (dex_imM 6 9 15 (by decide) (by decide) (by decide) rfl).mono ?_
      rintro e w8 ⟨rfl, kk⟩
      have D8 := hid (D7.out.keep kk)
      clear kk D7 c0 c1 c2
      obtain ⟨c0, c1, c2⟩ := D8.out.c
      go_wp2_with fail
      refine (dex_imC D8.out).mono ?_
      rintro e w9 ⟨rfl, kk⟩
      have D9 := hid (D8.out.keep kk)
      clear kk D8 c0 c1 c2
      obtain ⟨c0, c1, c2⟩ := D9.out.m
      go_wp2_with fail
      refine (dex_imM 18446744073709551614 18446744073709551615 12 (by decide) (by decide) (by decide) rfl).mono ?_
      rintro e w10 ⟨rfl, kk⟩
      have D10 := hid (D9.out.keep kk)
      clear kk D9 c0 c1 c2
      obtain ⟨c0, c1, c2⟩ := D10.out.m
      go_wp2_with fail
      refine (dex_imS).mono ?_
      rintro e w11 ⟨rfl, kk⟩
      have D11 := hid (D10.out.keep kk)
      clear kk D10 c0 c1 c2
      obtain ⟨c0, c1, c2⟩ := D11.out.m
      go_wp2_with fail
      refine (dex_leM 6 (.tuple #[.int .u64 9, .bool true, .int .i64 0]) (by decide) (by decide) rfl).mono ?_
      rintro e w12 ⟨rfl, kk⟩
      have D12 := hid (D11.out.keep kk)
      clear kk D11 c0 c1 c2
      obtain ⟨c0, c1, c2⟩ := D12.out.m
      go_wp2_with fail
      refine (dex_leM 18446744073709551614 (.tuple #[.int .u64 0, .bool false, .int .i64 0]) (by decide) (by decide) rfl).mono ?_
      rintro e w13 ⟨rfl, kk⟩
      have D13 := hid (D12.out.keep kk)
      clear kk D12 c0 c1 c2
      obtain ⟨c0, c1, c2⟩ := D13.out.c
      go_wp2_with fail
      refine (dex_leC D13.out 2 (.tuple #[.int .u64 5, .bool true, .int .i64 0]) (by decide) (by decide) rfl).mono ?_
      rintro e w14 ⟨rfl, kk⟩
      have D14 := hid (D13.out.keep kk)
      clear kk D13 c0 c1 c2
      obtain ⟨c0, c1, c2⟩ := D14.out.c
      go_wp2_with fail
      refine (dex_leC D14.out 9 (.tuple #[.int .u64 0, .bool false, .int .i64 0]) (by decide) (by decide) rfl).mono ?_
      rintro e w15 ⟨rfl, kk⟩
      have D15 := hid (D14.out.keep kk)
      clear kk D14 c0 c1 c2
      obtain ⟨c0, c1, c2⟩ := D15.out.c
      go_wp2_with fail
      refine (dex_leR D15.out).mono ?_
      rintro e w16 ⟨rfl, kk⟩
      have D16 := hid (D15.out.keep kk)
      clear kk D15 c0 c1 c2
      obtain ⟨c0, c1, c2⟩ := D16.out.c
      go_wp2_with fail
      clear c0 c1 c2
      refine (dex_set _).mono ?_
      rintro e w17 ⟨rfl, kk⟩
      have D17 := hid (D16.out.keep (kk ▸ (Keep.refl Nil w16).alloc _))
      clear kk D16
      go_wp2_with fail
      refine (dex_set64 _).mono ?_
      rintro e w18 ⟨rfl, kk⟩
      have D18 := hid (D17.out.keep (kk ▸ (Keep.refl Nil w17).alloc _))
      clear kk D17
      go_wp2_with fail
      refine (dex_bkts _).mono ?_
      rintro e w19 ⟨v, rfl, rv, kk, -⟩
      have D19 := hid (D18.out.keep kk)
      have RV := hid rv
      clear kk D18 rv
      go_wp2_with fail
      refine (dex_bk9 _).mono ?_
      rintro e w20 ⟨rfl, rfl⟩
      go_wp2_with fail
      refine (dex_bk64 _).mono ?_
      rintro e w20 ⟨rfl, rfl⟩
      go_wp2_with fail
      refine (dex_same RV.out).mono ?_
      rintro e w20 ⟨rfl, kk⟩
      have D20 := hid (D19.out.keep (((Keep.refl Nil w19).alloc _).trans kk (fun _ _ h => h)))
      clear kk D19 RV
      go_wp2_with fail
      refine (dex_mems _).mono ?_
      rintro e w21 ⟨u, rfl, ru, kk⟩
      have D21 := hid (D20.out.keep kk)
      have RU := hid ru
      clear kk D20 ru
      go_wp2_with fail
      refine (dex_same RU.out).mono ?_
      rintro e w22 ⟨rfl, kk⟩
      have D22 := hid (D21.out.keep (((Keep.refl Nil w21).alloc _).trans kk (fun _ _ h => h)))
      clear kk D21 RU
      go_wp2
      go_ret
      exact ⟨rfl, D22.out.own⟩
end
end Go.Proofs.Ytfpobagkananeaa
