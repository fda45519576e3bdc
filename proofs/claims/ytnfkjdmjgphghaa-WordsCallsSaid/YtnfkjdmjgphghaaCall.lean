/- The program's memory beside the reference's: a call made in both. -/
import Derived.Test.YtnfkjdmjgphghaaRefNew
import Derived.Test.YtnfkjdmjgphghaaRunPlain
import Derived.Deep.RegionHeld3
namespace Go.Proofs.Ytnfkjdmjgphghaa
open Go.RowKit Go.Lf
set_option linter.unusedVariables false

/-- Both memories, apart, with the same words and log. -/
structure PairAt (w : World) (b b' : Nat) (F G : Nat → Prop) (ws : List Int) (log : List Acc) : Prop where
  mem : MemAt w b F ws log
  ref : RefAt w b' G ws log
  apart : ∀ k, F k → ¬ G k

def PairTo (w : World) (b b' : Nat) (F G : Nat → Prop) (n m : Nat) (w' : World) : Prop :=
  ∃ F' G' ws log, PairAt w' b b' F' G' ws log ∧ Keep (fun j => F j ∨ G j) w w' ∧ Foot w (fun j => F j ∨ G j) (fun j => F' j ∨ G' j) ∧ ws.length = n ∧ log.length ≤ m ∧ ∀ v ∈ ws, U64 v

theorem PairAt.keep {w w' : World} {b b' : Nat} {F G S : Nat → Prop} {ws : List Int} {log : List Acc} (h : PairAt w b b' F G ws log) (hk : Keep S w w') (hd : ∀ k, F k ∨ G k → ¬ S k) : PairAt w' b b' F G ws log :=
  ⟨h.mem.keep hk (fun k hF => hd k (.inl hF)), h.ref.keep hk (fun k hG => hd k (.inr hG)), h.apart⟩

theorem PairAt.same {w w' : World} {b b' n m : Nat} {F G : Nat → Prop} {ws : List Int} {log : List Acc} (h : PairAt w b b' F G ws log) (hk : Keep Nil w w') (hn : ws.length = n) (hm : log.length ≤ m) (hu : ∀ v ∈ ws, U64 v) : PairTo w b b' F G n m w' :=
  ⟨F, G, ws, log, h.keep hk (fun _ _ h => h), hk.mono (fun _ _ h => h.elim), fun _ h => .inl h, hn, hm, hu⟩

theorem pair_mk {w W w1 w2 : World} {b b' n m : Nat} {F G F1 G2 : Nat → Prop} {ws ws2 : List Int} {log log2 : List Acc} (kW : Keep Nil w W) (h : PairAt W b b' F G ws log)
    (hm1 : MemAt w1 b F1 ws2 log2) (k1 : Keep F W w1) (f1 : Foot W F F1) (hr2 : RefAt w2 b' G2 ws2 log2) (k2 : Keep G w1 w2) (f2 : Foot w1 G G2)
    (hn : ws2.length = n) (hm : log2.length ≤ m) (hu : ∀ v ∈ ws2, U64 v) : PairTo w b b' F G n m w2 := by
  have hFG : ∀ k, F1 k → ¬ G k := fun k hF hG => by
    rcases f1 k hF with h1 | h1
    · exact h.apart k h1 hG
    · have := h.ref.lt k hG; omega
  refine ⟨F1, G2, ws2, log2, ⟨hm1.keep k2 hFG, hr2, fun k hF hG => ?_⟩, ?_, ?_, hn, hm, hu⟩
  · rcases f2 k hG with h1 | h1
    · exact hFG k hF h1
    · have := hm1.lt k hF; omega
  · refine (kW.mono (fun _ _ h => h.elim)).trans ((k1.mono (fun _ _ h => .inl h)).trans (k2.mono (T := fun j => F j ∨ G j) (fun _ _ h => .inr h)) (fun _ _ h => h)) (fun _ _ h => h)
  · intro k hk
    rcases hk with hk | hk
    · rcases f1 k hk with h1 | h1
      · exact .inl (.inl h1)
      · exact .inr (Nat.le_trans kW.size h1)
    · rcases f2 k hk with h1 | h1
      · exact .inl (.inr h1)
      · exact .inr (Nat.le_trans (Nat.le_trans kW.size k1.size) h1)

theorem mem_set_u64 {ws : List Int} {i : Nat} {v : Int} (h : ∀ v ∈ ws, U64 v) (hv : U64 v) : ∀ u ∈ ws.set i v, U64 u := fun u hu => by
  rcases mem_set hu with rfl | h'
  · exact hv
  · exact h u h'

section
variable {b b' : Nat} {F G : Nat → Prop} {ws : List Int} {log : List Acc} {w : World} {m : Nat}

set_option maxRecDepth 100000 in
set_option maxHeartbeats 2000000 in
theorem call_load (h : PairAt w b b' F G ws log) (x : Do) (hx : x.wf) (h5 : x.w % 5 = 0) (he : errOf x.t x.a ws.length = 0) (hu : ∀ v ∈ ws, U64 v) (hl : log.length ≤ m) (hn : m < 100000000) :
    Calls Try.prog 26 #[.agg x.cells.toArray, .pointer (some ⟨b, 0, none⟩), .pointer (some ⟨b', 0, none⟩)] w fun e w' => e = .returned (.bool true) ∧ PairTo w b b' F G ws.length (m + 1) w' := by
  obtain ⟨hw0, hw1⟩ : U8 x.w := U8.of_wf hx.1
  have d0 : (x.w % 5 == 0) = true := beq_iff_eq.2 h5
  simp only [Do.cells]
  have kW := hid (Keep.alloc (Keep.refl Nil w) (.cells #[.int .u8 x.w, .int .i64 x.t, .int .i64 x.a, .int .u64 x.o, .int .u64 x.v] 50))
  have HP := hid (h.keep kW.out (fun _ _ h => h))
  have hbz : ∀ k, F k ∨ G k → k < w.heap.size := fun k hk => hk.elim (h.mem.lt k) (h.ref.lt k)
  have HBZ := hid hbz
  clear hbz
  obtain ⟨ht0, ht1, ha0, ha1⟩ := errOf_zero.1 he
  have hgv := gv_at (ws := ws) (a := x.a) ha0 ha1
  have HGU := hid (hu _ (List.mem_of_getElem? hgv))
  have HG := hid hgv
  have hlg : log.length < 1000000000000 := by omega
  have HU := hid hu
  have HX := hid hx
  clear h hu hx h5 hgv he
  go_enter Try.func26, Try.ntmps26
  go_wp2_with fail
  refine (load_ok HP.out.mem _ _ _ ht0 ht1 ha0 HG.out hlg).mono ?_
  rintro e w1 ⟨rfl, F1, hm1, k1, f1⟩
  have HR1 := HP.out.ref.keep k1 (fun k hG hF => HP.out.apart k hF hG)
  have e1 : w1.cell? ⟨w.heap.size, 1, none⟩ = some (.int .i64 x.t) := k1.cell (by rw [cell_of (heap_alloc_new w _)]; rfl) (fun hF => by have := HBZ.out _ (.inl hF); omega)
  have e2 : w1.cell? ⟨w.heap.size, 2, none⟩ = some (.int .i64 x.a) := k1.cell (by rw [cell_of (heap_alloc_new w _)]; rfl) (fun hF => by have := HBZ.out _ (.inl hF); omega)
  have e3 : w1.cell? ⟨w.heap.size, 3, none⟩ = some (.int .u64 x.o) := k1.cell (by rw [cell_of (heap_alloc_new w _)]; rfl) (fun hF => by have := HBZ.out _ (.inl hF); omega)
  have e4 : w1.cell? ⟨w.heap.size, 4, none⟩ = some (.int .u64 x.v) := k1.cell (by rw [cell_of (heap_alloc_new w _)]; rfl) (fun hF => by have := HBZ.out _ (.inl hF); omega)
  have HM1 := hid hm1
  have K1 := hid k1
  have F1' := hid f1
  clear hm1 k1 f1
  go_wp2_with fail
  refine (rload_ok HR1 _ _ _ ht0 ht1 ha0 HG.out hlg).mono ?_
  rintro e w2 ⟨rfl, G2, hr2, k2, f2⟩
  have fin := pair_mk (n := ws.length) (m := m + 1) kW.out HP.out HM1.out K1.out F1'.out hr2 k2 f2 (rfl) (by simp; omega) (HU.out)
  have FIN := hid fin
  clear fin hr2 k2 f2 e1 e2 e3 e4
  go_wp2
  go_ret
  exact ⟨rfl, FIN.out⟩

set_option maxRecDepth 100000 in
set_option maxHeartbeats 2000000 in
theorem call_store (h : PairAt w b b' F G ws log) (x : Do) (hx : x.wf) (h5 : x.w % 5 = 1) (he : errOf x.t x.a ws.length = 0) (hu : ∀ v ∈ ws, U64 v) (hl : log.length ≤ m) (hn : m < 100000000) :
    Calls Try.prog 26 #[.agg x.cells.toArray, .pointer (some ⟨b, 0, none⟩), .pointer (some ⟨b', 0, none⟩)] w fun e w' => e = .returned (.bool true) ∧ PairTo w b b' F G ws.length (m + 1) w' := by
  obtain ⟨hw0, hw1⟩ : U8 x.w := U8.of_wf hx.1
  have d0 : (x.w % 5 == 0) = false := beq_eq_false_iff_ne.2 (by omega)
  have d1 : (x.w % 5 == 1) = true := beq_iff_eq.2 h5
  simp only [Do.cells]
  have kW := hid (Keep.alloc (Keep.refl Nil w) (.cells #[.int .u8 x.w, .int .i64 x.t, .int .i64 x.a, .int .u64 x.o, .int .u64 x.v] 50))
  have HP := hid (h.keep kW.out (fun _ _ h => h))
  have hbz : ∀ k, F k ∨ G k → k < w.heap.size := fun k hk => hk.elim (h.mem.lt k) (h.ref.lt k)
  have HBZ := hid hbz
  clear hbz
  obtain ⟨ht0, ht1, ha0, ha1⟩ := errOf_zero.1 he
  have hgv := gv_at (ws := ws) (a := x.a) ha0 ha1
  have HGU := hid (hu _ (List.mem_of_getElem? hgv))
  have HG := hid hgv
  have hlg : log.length < 1000000000000 := by omega
  have HU := hid hu
  have HX := hid hx
  clear h hu hx h5 hgv he
  go_enter Try.func26, Try.ntmps26
  go_wp2
  obtain ⟨W, hW⟩ : ∃ W, W = w.alloc (.cells #[.int .u8 x.w, .int .i64 x.t, .int .i64 x.a, .int .u64 x.o, .int .u64 x.v] 50) := ⟨_, rfl⟩
  rw [← hW]
  rw [← hW] at HP kW
  have c1 : W.cell? ⟨w.heap.size, 1, none⟩ = some (.int .i64 x.t) := by rw [hW, cell_of (heap_alloc_new w _)]; rfl
  have c2 : W.cell? ⟨w.heap.size, 2, none⟩ = some (.int .i64 x.a) := by rw [hW, cell_of (heap_alloc_new w _)]; rfl
  have c4 : W.cell? ⟨w.heap.size, 4, none⟩ = some (.int .u64 x.v) := by rw [hW, cell_of (heap_alloc_new w _)]; rfl
  clear hW
  go_region_held3 (fun w' => w'.cell? ⟨w.heap.size, 1, none⟩ = some (.int .i64 x.t) ∧ w'.cell? ⟨w.heap.size, 2, none⟩ = some (.int .i64 x.a) ∧ w'.cell? ⟨w.heap.size, 4, none⟩ = some (.int .u64 x.v)) (go_keep)
    (first
      | (go_at_call 29; have hq := HP.out.keep (Keep.refl Nil W).drew (fun _ _ h => h); refine (store_ok hq.mem _ _ _ _ ht0 ht1 ha0 HG.out hlg).mono ?_; rintro e w1 ⟨rfl, F1, hm1, k1, f1⟩; have HR1 := hq.ref.keep k1 (fun k hG hF => hq.apart k hF hG); have p1 := k1.cell (show W.drew.cell? _ = _ from c1) (fun hF => by have := HBZ.out _ (.inl hF); omega); have p2 := k1.cell (show W.drew.cell? _ = _ from c2) (fun hF => by have := HBZ.out _ (.inl hF); omega); have p4 := k1.cell (show W.drew.cell? _ = _ from c4) (fun hF => by have := HBZ.out _ (.inl hF); omega); have HQ := hid hq; have HR1' := hid HR1; have HM1 := hid hm1; have K1 := hid k1; have F1' := hid f1; clear hm1 k1 f1 hq HR1)
      | (go_at_call 40; refine (rstore_ok HR1'.out _ _ _ _ ht0 ht1 ha0 HG.out hlg).mono ?_; rintro e w2 ⟨rfl, G2, hr2, k2, f2⟩; have q1 := k2.cell p1 (fun hG => by have := HBZ.out _ (.inr hG); omega); have q2 := k2.cell p2 (fun hG => by have := HBZ.out _ (.inr hG); omega); have q4 := k2.cell p4 (fun hG => by have := HBZ.out _ (.inr hG); omega); have FIN := hid (pair_mk (n := ws.length) (m := m + 1) kW.out.drew HQ.out HM1.out K1.out F1'.out hr2 k2 f2 (by simp) (by simp; omega) (mem_set_u64 HU.out (U64.of_wf HX.out.2.2.2.2))); clear hr2 k2 f2))
  go_wp2
  go_ret
  exact ⟨rfl, FIN.out⟩

set_option maxRecDepth 100000 in
set_option maxHeartbeats 2000000 in
theorem call_add (h : PairAt w b b' F G ws log) (x : Do) (hx : x.wf) (h5 : x.w % 5 = 2) (he : errOf x.t x.a ws.length = 0) (hu : ∀ v ∈ ws, U64 v) (hl : log.length ≤ m) (hn : m < 100000000) :
    Calls Try.prog 26 #[.agg x.cells.toArray, .pointer (some ⟨b, 0, none⟩), .pointer (some ⟨b', 0, none⟩)] w fun e w' => e = .returned (.bool true) ∧ PairTo w b b' F G ws.length (m + 1) w' := by
  obtain ⟨hw0, hw1⟩ : U8 x.w := U8.of_wf hx.1
  have d0 : (x.w % 5 == 0) = false := beq_eq_false_iff_ne.2 (by omega)
  have d1 : (x.w % 5 == 1) = false := beq_eq_false_iff_ne.2 (by omega)
  have d2 : (x.w % 5 == 2) = true := beq_iff_eq.2 h5
  simp only [Do.cells]
  have kW := hid (Keep.alloc (Keep.refl Nil w) (.cells #[.int .u8 x.w, .int .i64 x.t, .int .i64 x.a, .int .u64 x.o, .int .u64 x.v] 50))
  have HP := hid (h.keep kW.out (fun _ _ h => h))
  have hbz : ∀ k, F k ∨ G k → k < w.heap.size := fun k hk => hk.elim (h.mem.lt k) (h.ref.lt k)
  have HBZ := hid hbz
  clear hbz
  obtain ⟨ht0, ht1, ha0, ha1⟩ := errOf_zero.1 he
  have hgv := gv_at (ws := ws) (a := x.a) ha0 ha1
  have HGU := hid (hu _ (List.mem_of_getElem? hgv))
  have HG := hid hgv
  have hlg : log.length < 1000000000000 := by omega
  have HU := hid hu
  have HX := hid hx
  clear h hu hx h5 hgv he
  go_enter Try.func26, Try.ntmps26
  go_wp2_with fail
  refine (add_ok HP.out.mem _ _ _ _ ht0 ht1 ha0 HG.out HGU.out.1 HGU.out.2 hlg).mono ?_
  rintro e w1 ⟨rfl, F1, hm1, k1, f1⟩
  have HR1 := HP.out.ref.keep k1 (fun k hG hF => HP.out.apart k hF hG)
  have e1 : w1.cell? ⟨w.heap.size, 1, none⟩ = some (.int .i64 x.t) := k1.cell (by rw [cell_of (heap_alloc_new w _)]; rfl) (fun hF => by have := HBZ.out _ (.inl hF); omega)
  have e2 : w1.cell? ⟨w.heap.size, 2, none⟩ = some (.int .i64 x.a) := k1.cell (by rw [cell_of (heap_alloc_new w _)]; rfl) (fun hF => by have := HBZ.out _ (.inl hF); omega)
  have e3 : w1.cell? ⟨w.heap.size, 3, none⟩ = some (.int .u64 x.o) := k1.cell (by rw [cell_of (heap_alloc_new w _)]; rfl) (fun hF => by have := HBZ.out _ (.inl hF); omega)
  have e4 : w1.cell? ⟨w.heap.size, 4, none⟩ = some (.int .u64 x.v) := k1.cell (by rw [cell_of (heap_alloc_new w _)]; rfl) (fun hF => by have := HBZ.out _ (.inl hF); omega)
  have HM1 := hid hm1
  have K1 := hid k1
  have F1' := hid f1
  clear hm1 k1 f1
  go_wp2_with fail
  refine (radd_ok HR1 _ _ _ _ ht0 ht1 ha0 HG.out hlg).mono ?_
  rintro e w2 ⟨rfl, G2, hr2, k2, f2⟩
  have fin := pair_mk (n := ws.length) (m := m + 1) kW.out HP.out HM1.out K1.out F1'.out hr2 k2 f2 (by simp) (by simp; omega) (mem_set_u64 HU.out (U64.wrap _))
  have FIN := hid fin
  clear fin hr2 k2 f2 e1 e2 e3 e4
  go_wp2
  go_ret
  exact ⟨rfl, FIN.out⟩

set_option maxRecDepth 100000 in
set_option maxHeartbeats 2000000 in
theorem call_casy (h : PairAt w b b' F G ws log) (x : Do) (hx : x.wf) (h5 : x.w % 5 = 3) (he : errOf x.t x.a ws.length = 0) (hgo : gv ws x.a = x.o) (hu : ∀ v ∈ ws, U64 v) (hl : log.length ≤ m) (hn : m < 100000000) :
    Calls Try.prog 26 #[.agg x.cells.toArray, .pointer (some ⟨b, 0, none⟩), .pointer (some ⟨b', 0, none⟩)] w fun e w' => e = .returned (.bool true) ∧ PairTo w b b' F G ws.length (m + 1) w' := by
  obtain ⟨hw0, hw1⟩ : U8 x.w := U8.of_wf hx.1
  have d0 : (x.w % 5 == 0) = false := beq_eq_false_iff_ne.2 (by omega)
  have d1 : (x.w % 5 == 1) = false := beq_eq_false_iff_ne.2 (by omega)
  have d2 : (x.w % 5 == 2) = false := beq_eq_false_iff_ne.2 (by omega)
  have d3 : (x.w % 5 == 3) = true := beq_iff_eq.2 h5
  simp only [Do.cells]
  have kW := hid (Keep.alloc (Keep.refl Nil w) (.cells #[.int .u8 x.w, .int .i64 x.t, .int .i64 x.a, .int .u64 x.o, .int .u64 x.v] 50))
  have HP := hid (h.keep kW.out (fun _ _ h => h))
  have hbz : ∀ k, F k ∨ G k → k < w.heap.size := fun k hk => hk.elim (h.mem.lt k) (h.ref.lt k)
  have HBZ := hid hbz
  clear hbz
  obtain ⟨ht0, ht1, ha0, ha1⟩ := errOf_zero.1 he
  have hgv := gv_at (ws := ws) (a := x.a) ha0 ha1
  have HGU := hid (hu _ (List.mem_of_getElem? hgv))
  have HG := hid hgv
  have HGO := hid hgo
  clear hgo
  have hlg : log.length < 1000000000000 := by omega
  have HU := hid hu
  have HX := hid hx
  clear h hu hx h5 hgv he
  go_enter Try.func26, Try.ntmps26
  go_wp2_with fail
  refine (cas_yes HP.out.mem _ _ _ _ ht0 ht1 ha0 (HG.out.trans (by rw [HGO.out])) hlg).mono ?_
  rintro e w1 ⟨rfl, F1, hm1, k1, f1⟩
  have HR1 := HP.out.ref.keep k1 (fun k hG hF => HP.out.apart k hF hG)
  have e1 : w1.cell? ⟨w.heap.size, 1, none⟩ = some (.int .i64 x.t) := k1.cell (by rw [cell_of (heap_alloc_new w _)]; rfl) (fun hF => by have := HBZ.out _ (.inl hF); omega)
  have e2 : w1.cell? ⟨w.heap.size, 2, none⟩ = some (.int .i64 x.a) := k1.cell (by rw [cell_of (heap_alloc_new w _)]; rfl) (fun hF => by have := HBZ.out _ (.inl hF); omega)
  have e3 : w1.cell? ⟨w.heap.size, 3, none⟩ = some (.int .u64 x.o) := k1.cell (by rw [cell_of (heap_alloc_new w _)]; rfl) (fun hF => by have := HBZ.out _ (.inl hF); omega)
  have e4 : w1.cell? ⟨w.heap.size, 4, none⟩ = some (.int .u64 x.v) := k1.cell (by rw [cell_of (heap_alloc_new w _)]; rfl) (fun hF => by have := HBZ.out _ (.inl hF); omega)
  have HM1 := hid hm1
  have K1 := hid k1
  have F1' := hid f1
  clear hm1 k1 f1
  go_wp2_with fail
  refine (rcas_yes HR1 _ _ _ _ ht0 ht1 ha0 (HG.out.trans (by rw [HGO.out])) hlg).mono ?_
  rintro e w2 ⟨rfl, G2, hr2, k2, f2⟩
  have fin := pair_mk (n := ws.length) (m := m + 1) kW.out HP.out HM1.out K1.out F1'.out hr2 k2 f2 (by simp) (by simp; omega) (mem_set_u64 HU.out (U64.of_wf HX.out.2.2.2.2))
  have FIN := hid fin
  clear fin hr2 k2 f2 e1 e2 e3 e4
  go_wp2
  go_ret
  exact ⟨rfl, FIN.out⟩

set_option maxRecDepth 100000 in
set_option maxHeartbeats 2000000 in
theorem call_casn (h : PairAt w b b' F G ws log) (x : Do) (hx : x.wf) (h5 : x.w % 5 = 3) (he : errOf x.t x.a ws.length = 0) (hgo : gv ws x.a ≠ x.o) (hu : ∀ v ∈ ws, U64 v) (hl : log.length ≤ m) (hn : m < 100000000) :
    Calls Try.prog 26 #[.agg x.cells.toArray, .pointer (some ⟨b, 0, none⟩), .pointer (some ⟨b', 0, none⟩)] w fun e w' => e = .returned (.bool true) ∧ PairTo w b b' F G ws.length (m + 1) w' := by
  obtain ⟨hw0, hw1⟩ : U8 x.w := U8.of_wf hx.1
  have d0 : (x.w % 5 == 0) = false := beq_eq_false_iff_ne.2 (by omega)
  have d1 : (x.w % 5 == 1) = false := beq_eq_false_iff_ne.2 (by omega)
  have d2 : (x.w % 5 == 2) = false := beq_eq_false_iff_ne.2 (by omega)
  have d3 : (x.w % 5 == 3) = true := beq_iff_eq.2 h5
  simp only [Do.cells]
  have kW := hid (Keep.alloc (Keep.refl Nil w) (.cells #[.int .u8 x.w, .int .i64 x.t, .int .i64 x.a, .int .u64 x.o, .int .u64 x.v] 50))
  have HP := hid (h.keep kW.out (fun _ _ h => h))
  have hbz : ∀ k, F k ∨ G k → k < w.heap.size := fun k hk => hk.elim (h.mem.lt k) (h.ref.lt k)
  have HBZ := hid hbz
  clear hbz
  obtain ⟨ht0, ht1, ha0, ha1⟩ := errOf_zero.1 he
  have hgv := gv_at (ws := ws) (a := x.a) ha0 ha1
  have HGU := hid (hu _ (List.mem_of_getElem? hgv))
  have HG := hid hgv
  have HGO := hid hgo
  clear hgo
  have hlg : log.length < 1000000000000 := by omega
  have HU := hid hu
  have HX := hid hx
  clear h hu hx h5 hgv he
  go_enter Try.func26, Try.ntmps26
  go_wp2_with fail
  refine (cas_no HP.out.mem _ _ _ _ _ ht0 ht1 ha0 HG.out HGO.out hlg).mono ?_
  rintro e w1 ⟨rfl, F1, hm1, k1, f1⟩
  have HR1 := HP.out.ref.keep k1 (fun k hG hF => HP.out.apart k hF hG)
  have e1 : w1.cell? ⟨w.heap.size, 1, none⟩ = some (.int .i64 x.t) := k1.cell (by rw [cell_of (heap_alloc_new w _)]; rfl) (fun hF => by have := HBZ.out _ (.inl hF); omega)
  have e2 : w1.cell? ⟨w.heap.size, 2, none⟩ = some (.int .i64 x.a) := k1.cell (by rw [cell_of (heap_alloc_new w _)]; rfl) (fun hF => by have := HBZ.out _ (.inl hF); omega)
  have e3 : w1.cell? ⟨w.heap.size, 3, none⟩ = some (.int .u64 x.o) := k1.cell (by rw [cell_of (heap_alloc_new w _)]; rfl) (fun hF => by have := HBZ.out _ (.inl hF); omega)
  have e4 : w1.cell? ⟨w.heap.size, 4, none⟩ = some (.int .u64 x.v) := k1.cell (by rw [cell_of (heap_alloc_new w _)]; rfl) (fun hF => by have := HBZ.out _ (.inl hF); omega)
  have HM1 := hid hm1
  have K1 := hid k1
  have F1' := hid f1
  clear hm1 k1 f1
  go_wp2_with fail
  refine (rcas_no HR1 _ _ _ _ _ ht0 ht1 ha0 HG.out HGO.out hlg).mono ?_
  rintro e w2 ⟨rfl, G2, hr2, k2, f2⟩
  have fin := pair_mk (n := ws.length) (m := m + 1) kW.out HP.out HM1.out K1.out F1'.out hr2 k2 f2 (rfl) (by simp; omega) (HU.out)
  have FIN := hid fin
  clear fin hr2 k2 f2 e1 e2 e3 e4
  go_wp2
  go_ret
  exact ⟨rfl, FIN.out⟩

set_option maxRecDepth 100000 in
set_option maxHeartbeats 2000000 in
theorem call_load_e (h : PairAt w b b' F G ws log) (x : Do) (hx : x.wf) (h5 : x.w % 5 = 0) (he : errOf x.t x.a ws.length ≠ 0) (hu : ∀ v ∈ ws, U64 v) (hl : log.length ≤ m) (hn : m < 100000000) :
    Calls Try.prog 26 #[.agg x.cells.toArray, .pointer (some ⟨b, 0, none⟩), .pointer (some ⟨b', 0, none⟩)] w fun e w' => e = .returned (.bool true) ∧ PairTo w b b' F G ws.length (m + 1) w' := by
  obtain ⟨hw0, hw1⟩ : U8 x.w := U8.of_wf hx.1
  have d0 : (x.w % 5 == 0) = true := beq_iff_eq.2 h5
  simp only [Do.cells]
  have kW := hid (Keep.alloc (Keep.refl Nil w) (.cells #[.int .u8 x.w, .int .i64 x.t, .int .i64 x.a, .int .u64 x.o, .int .u64 x.v] 50))
  have HP := hid (h.keep kW.out (fun _ _ h => h))
  have hbz : ∀ k, F k ∨ G k → k < w.heap.size := fun k hk => hk.elim (h.mem.lt k) (h.ref.lt k)
  have HBZ := hid hbz
  clear hbz
  have HE := hid he
  have HN := hid hl
  have HU := hid hu
  have h' := h
  have HH := hid h'
  clear h h' hu hx h5 he hl
  go_enter Try.func26, Try.ntmps26
  go_wp2_with (first | (go_at_call 20; refine (load_err HP.out.mem _ _ HE.out).mono ?_; rintro e w' ⟨rfl, rfl⟩) | (go_at_call 39; refine (rload_err HP.out.ref _ _ HE.out).mono ?_; rintro e w' ⟨rfl, rfl⟩))
  go_ret
  exact ⟨rfl, PairAt.same HH.out kW.out rfl (by have := HN.out; omega) HU.out⟩

set_option maxRecDepth 100000 in
set_option maxHeartbeats 2000000 in
theorem call_store_e (h : PairAt w b b' F G ws log) (x : Do) (hx : x.wf) (h5 : x.w % 5 = 1) (he : errOf x.t x.a ws.length ≠ 0) (hu : ∀ v ∈ ws, U64 v) (hl : log.length ≤ m) (hn : m < 100000000) :
    Calls Try.prog 26 #[.agg x.cells.toArray, .pointer (some ⟨b, 0, none⟩), .pointer (some ⟨b', 0, none⟩)] w fun e w' => e = .returned (.bool true) ∧ PairTo w b b' F G ws.length (m + 1) w' := by
  obtain ⟨hw0, hw1⟩ : U8 x.w := U8.of_wf hx.1
  have d0 : (x.w % 5 == 0) = false := beq_eq_false_iff_ne.2 (by omega)
  have d1 : (x.w % 5 == 1) = true := beq_iff_eq.2 h5
  simp only [Do.cells]
  have kW := hid (Keep.alloc (Keep.refl Nil w) (.cells #[.int .u8 x.w, .int .i64 x.t, .int .i64 x.a, .int .u64 x.o, .int .u64 x.v] 50))
  have HP := hid (h.keep kW.out (fun _ _ h => h))
  have hbz : ∀ k, F k ∨ G k → k < w.heap.size := fun k hk => hk.elim (h.mem.lt k) (h.ref.lt k)
  have HBZ := hid hbz
  clear hbz
  have HE := hid he
  have HN := hid hl
  have HU := hid hu
  have HH := hid h
  clear h hu hx h5 he hl
  go_enter Try.func26, Try.ntmps26
  go_wp2
  go_quiet (first | (go_at_call 29; exact quiet_eq (store_err (HP.out.keep ((Keep.refl Nil _).drewN _) (fun _ _ h => h)).mem _ _ _ HE.out)) | (go_at_call 40; exact quiet_eq (rstore_err (HP.out.keep ((Keep.refl Nil _).drewN _) (fun _ _ h => h)).ref _ _ _ HE.out)))
  go_wp2
  go_ret
  exact ⟨rfl, PairAt.same HH.out (kW.out.drewN _) rfl (by have := HN.out; omega) HU.out⟩

set_option maxRecDepth 100000 in
set_option maxHeartbeats 2000000 in
theorem call_add_e (h : PairAt w b b' F G ws log) (x : Do) (hx : x.wf) (h5 : x.w % 5 = 2) (he : errOf x.t x.a ws.length ≠ 0) (hu : ∀ v ∈ ws, U64 v) (hl : log.length ≤ m) (hn : m < 100000000) :
    Calls Try.prog 26 #[.agg x.cells.toArray, .pointer (some ⟨b, 0, none⟩), .pointer (some ⟨b', 0, none⟩)] w fun e w' => e = .returned (.bool true) ∧ PairTo w b b' F G ws.length (m + 1) w' := by
  obtain ⟨hw0, hw1⟩ : U8 x.w := U8.of_wf hx.1
  have d0 : (x.w % 5 == 0) = false := beq_eq_false_iff_ne.2 (by omega)
  have d1 : (x.w % 5 == 1) = false := beq_eq_false_iff_ne.2 (by omega)
  have d2 : (x.w % 5 == 2) = true := beq_iff_eq.2 h5
  simp only [Do.cells]
  have kW := hid (Keep.alloc (Keep.refl Nil w) (.cells #[.int .u8 x.w, .int .i64 x.t, .int .i64 x.a, .int .u64 x.o, .int .u64 x.v] 50))
  have HP := hid (h.keep kW.out (fun _ _ h => h))
  have hbz : ∀ k, F k ∨ G k → k < w.heap.size := fun k hk => hk.elim (h.mem.lt k) (h.ref.lt k)
  have HBZ := hid hbz
  clear hbz
  have HE := hid he
  have HN := hid hl
  have HU := hid hu
  have h' := h
  have HH := hid h'
  clear h h' hu hx h5 he hl
  go_enter Try.func26, Try.ntmps26
  go_wp2_with (first | (go_at_call 18; refine (add_err HP.out.mem _ _ _ HE.out).mono ?_; rintro e w' ⟨rfl, rfl⟩) | (go_at_call 41; refine (radd_err HP.out.ref _ _ _ HE.out).mono ?_; rintro e w' ⟨rfl, rfl⟩))
  go_ret
  exact ⟨rfl, PairAt.same HH.out kW.out rfl (by have := HN.out; omega) HU.out⟩

set_option maxRecDepth 100000 in
set_option maxHeartbeats 2000000 in
theorem call_cas_e (h : PairAt w b b' F G ws log) (x : Do) (hx : x.wf) (h5 : x.w % 5 = 3) (he : errOf x.t x.a ws.length ≠ 0) (hu : ∀ v ∈ ws, U64 v) (hl : log.length ≤ m) (hn : m < 100000000) :
    Calls Try.prog 26 #[.agg x.cells.toArray, .pointer (some ⟨b, 0, none⟩), .pointer (some ⟨b', 0, none⟩)] w fun e w' => e = .returned (.bool true) ∧ PairTo w b b' F G ws.length (m + 1) w' := by
  obtain ⟨hw0, hw1⟩ : U8 x.w := U8.of_wf hx.1
  have d0 : (x.w % 5 == 0) = false := beq_eq_false_iff_ne.2 (by omega)
  have d1 : (x.w % 5 == 1) = false := beq_eq_false_iff_ne.2 (by omega)
  have d2 : (x.w % 5 == 2) = false := beq_eq_false_iff_ne.2 (by omega)
  have d3 : (x.w % 5 == 3) = true := beq_iff_eq.2 h5
  simp only [Do.cells]
  have kW := hid (Keep.alloc (Keep.refl Nil w) (.cells #[.int .u8 x.w, .int .i64 x.t, .int .i64 x.a, .int .u64 x.o, .int .u64 x.v] 50))
  have HP := hid (h.keep kW.out (fun _ _ h => h))
  have hbz : ∀ k, F k ∨ G k → k < w.heap.size := fun k hk => hk.elim (h.mem.lt k) (h.ref.lt k)
  have HBZ := hid hbz
  clear hbz
  have HE := hid he
  have HN := hid hl
  have HU := hid hu
  have h' := h
  have HH := hid h'
  clear h h' hu hx h5 he hl
  go_enter Try.func26, Try.ntmps26
  go_wp2_with (first | (go_at_call 19; refine (cas_err HP.out.mem _ _ _ _ HE.out).mono ?_; rintro e w' ⟨rfl, rfl⟩) | (go_at_call 42; refine (rcas_err HP.out.ref _ _ _ _ HE.out).mono ?_; rintro e w' ⟨rfl, rfl⟩))
  go_ret
  exact ⟨rfl, PairAt.same HH.out kW.out rfl (by have := HN.out; omega) HU.out⟩

set_option maxRecDepth 100000 in
set_option maxHeartbeats 2000000 in
theorem call_peek (h : PairAt w b b' F G ws log) (x : Do) (hx : x.wf) (h5 : x.w % 5 = 4) (ha : 0 ≤ x.a ∧ x.a < (ws.length : Int)) (hu : ∀ v ∈ ws, U64 v) (hl : log.length ≤ m) (hn : m < 100000000) :
    Calls Try.prog 26 #[.agg x.cells.toArray, .pointer (some ⟨b, 0, none⟩), .pointer (some ⟨b', 0, none⟩)] w fun e w' => e = .returned (.bool true) ∧ PairTo w b b' F G ws.length (m + 1) w' := by
  obtain ⟨hw0, hw1⟩ : U8 x.w := U8.of_wf hx.1
  have d0 : (x.w % 5 == 0) = false := beq_eq_false_iff_ne.2 (by omega)
  have d1 : (x.w % 5 == 1) = false := beq_eq_false_iff_ne.2 (by omega)
  have d2 : (x.w % 5 == 2) = false := beq_eq_false_iff_ne.2 (by omega)
  have d3 : (x.w % 5 == 3) = false := beq_eq_false_iff_ne.2 (by omega)
  simp only [Do.cells]
  have kW := hid (Keep.alloc (Keep.refl Nil w) (.cells #[.int .u8 x.w, .int .i64 x.t, .int .i64 x.a, .int .u64 x.o, .int .u64 x.v] 50))
  have HP := hid (h.keep kW.out (fun _ _ h => h))
  have hbz : ∀ k, F k ∨ G k → k < w.heap.size := fun k hk => hk.elim (h.mem.lt k) (h.ref.lt k)
  have HBZ := hid hbz
  clear hbz
  have HN := hid hl
  have HU := hid hu
  have HH := hid h
  obtain ⟨ha0, ha1⟩ := ha
  have HG := hid (gv_at (ws := ws) (a := x.a) ha0 ha1)
  clear h hu hx h5 hl
  go_enter Try.func26, Try.ntmps26
  go_wp2_with (first | (go_at_call 21; refine (peek_ok HP.out.mem _ _ ha0 HG.out).mono ?_; rintro e w' ⟨rfl, rfl⟩) | (go_at_call 43; refine (rpeek_ok HP.out.ref _ _ ha0 HG.out).mono ?_; rintro e w' ⟨rfl, rfl⟩))
  go_ret
  exact ⟨rfl, PairAt.same HH.out kW.out rfl (by have := HN.out; omega) HU.out⟩

set_option maxRecDepth 100000 in
set_option maxHeartbeats 2000000 in
theorem call_peek_e (h : PairAt w b b' F G ws log) (x : Do) (hx : x.wf) (h5 : x.w % 5 = 4) (ha : x.a < 0 ∨ (ws.length : Int) ≤ x.a) (hu : ∀ v ∈ ws, U64 v) (hl : log.length ≤ m) (hn : m < 100000000) :
    Calls Try.prog 26 #[.agg x.cells.toArray, .pointer (some ⟨b, 0, none⟩), .pointer (some ⟨b', 0, none⟩)] w fun e w' => e = .returned (.bool true) ∧ PairTo w b b' F G ws.length (m + 1) w' := by
  obtain ⟨hw0, hw1⟩ : U8 x.w := U8.of_wf hx.1
  have d0 : (x.w % 5 == 0) = false := beq_eq_false_iff_ne.2 (by omega)
  have d1 : (x.w % 5 == 1) = false := beq_eq_false_iff_ne.2 (by omega)
  have d2 : (x.w % 5 == 2) = false := beq_eq_false_iff_ne.2 (by omega)
  have d3 : (x.w % 5 == 3) = false := beq_eq_false_iff_ne.2 (by omega)
  simp only [Do.cells]
  have kW := hid (Keep.alloc (Keep.refl Nil w) (.cells #[.int .u8 x.w, .int .i64 x.t, .int .i64 x.a, .int .u64 x.o, .int .u64 x.v] 50))
  have HP := hid (h.keep kW.out (fun _ _ h => h))
  have hbz : ∀ k, F k ∨ G k → k < w.heap.size := fun k hk => hk.elim (h.mem.lt k) (h.ref.lt k)
  have HBZ := hid hbz
  clear hbz
  have HN := hid hl
  have HU := hid hu
  have HH := hid h
  have HA := hid ha
  clear h hu hx h5 hl ha
  go_enter Try.func26, Try.ntmps26
  go_wp2_with (first | (go_at_call 21; refine (peek_no HP.out.mem _ HA.out).mono ?_; rintro e w' ⟨rfl, rfl⟩) | (go_at_call 43; refine (rpeek_no HP.out.ref _ HA.out).mono ?_; rintro e w' ⟨rfl, rfl⟩))
  go_ret
  exact ⟨rfl, PairAt.same HH.out kW.out rfl (by have := HN.out; omega) HU.out⟩

/-- A call, made in both memories. -/
theorem call_any (h : PairAt w b b' F G ws log) (x : Do) (hx : x.wf) (hu : ∀ v ∈ ws, U64 v) (hl : log.length ≤ m) (hn : m < 100000000) :
    Calls Try.prog 26 #[.agg x.cells.toArray, .pointer (some ⟨b, 0, none⟩), .pointer (some ⟨b', 0, none⟩)] w fun e w' => e = .returned (.bool true) ∧ PairTo w b b' F G ws.length (m + 1) w' := by
  obtain ⟨hw0, hw1⟩ : U8 x.w := U8.of_wf hx.1
  have h5 : x.w % 5 = 0 ∨ x.w % 5 = 1 ∨ x.w % 5 = 2 ∨ x.w % 5 = 3 ∨ x.w % 5 = 4 := by omega
  by_cases he : errOf x.t x.a ws.length = 0
  · rcases h5 with h5 | h5 | h5 | h5 | h5
    · exact call_load h x hx h5 he hu hl hn
    · exact call_store h x hx h5 he hu hl hn
    · exact call_add h x hx h5 he hu hl hn
    · by_cases hgo : gv ws x.a = x.o
      · exact call_casy h x hx h5 he hgo hu hl hn
      · exact call_casn h x hx h5 he hgo hu hl hn
    · exact call_peek h x hx h5 ⟨(errOf_zero.1 he).2.2.1, (errOf_zero.1 he).2.2.2⟩ hu hl hn
  · rcases h5 with h5 | h5 | h5 | h5 | h5
    · exact call_load_e h x hx h5 he hu hl hn
    · exact call_store_e h x hx h5 he hu hl hn
    · exact call_add_e h x hx h5 he hu hl hn
    · exact call_cas_e h x hx h5 he hu hl hn
    · by_cases ha : 0 ≤ x.a ∧ x.a < (ws.length : Int)
      · exact call_peek h x hx h5 ha hu hl hn
      · exact call_peek_e h x hx h5 (by omega) hu hl hn
end
end Go.Proofs.Ytnfkjdmjgphghaa
