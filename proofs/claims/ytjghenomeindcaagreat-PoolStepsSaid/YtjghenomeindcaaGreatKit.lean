
/- leapfrogkit.EqualUints and EqualAccesses: two equal lists are reported equal. -/
import Derived.Test.YtjghenomeindcaaGreatMem
namespace Go.Proofs.YtjghenomeindcaaGreat
open Go.RowKit Go.Lf

set_option maxHeartbeats 1000000 in
theorem eqU_yes (va vb : Value) (xs : List Int) (w : World) (h1 : Rd w 1 va xs.length (u64s xs)) (h2 : Rd w 1 vb xs.length (u64s xs)) (hm : xs.length ≤ 1000000000000) :
    Calls Tryz.prog 105 #[va, vb] w fun e w' => e = .returned (.bool true) ∧ Keep Nil w w' := by
  by_cases h0 : xs.length = 0
  · rw [h0] at h1 h2
    obtain ⟨a, c, rfl, -, -⟩ := h1
    obtain ⟨a', c', rfl, -, -⟩ := h2
    clear h0
    go_enter Tryz.func105, Tryz.ntmps105
    go_wp2
    go_rounds 1
    go_ret
    exact ⟨rfl, Keep.refl _ _⟩
  · obtain ⟨b, off, c, rfl, hc⟩ := Rd.cell h1 (by omega)
    obtain ⟨b', off', c', rfl, hc'⟩ := Rd.cell h2 (by omega)
    have HC := hid hc
    have HC' := hid hc'
    clear hc hc' h1 h2 h0
    go_enter Tryz.func105, Tryz.ntmps105
    go_wp2
    go_loopw [5] (fun i wr => ∃ k : Nat, k ≤ xs.length ∧ i = .int .i64 k ∧ Keep Nil w wr) (fun i _ => xs.length - (intOf i).toNat)
    case atStart => exact ⟨0, Nat.zero_le _, rfl, Keep.refl _ _⟩
    case round =>
      obtain ⟨k, hk, rfl, hkk⟩ := hrel
      have HKK := hid hkk
      clear hkk
      by_cases hlt : k < xs.length
      · obtain ⟨x, hx⟩ : ∃ x, xs[k]? = some x := ⟨_, List.getElem?_eq_getElem hlt⟩
        have hcx : wr.cell? ⟨b, off + k, none⟩ = some (.int .u64 x) := HKK.out.cell (HC.out k _ (u64s_at hx)) (fun h => h)
        have hcy : wr.cell? ⟨b', off' + k, none⟩ = some (.int .u64 x) := HKK.out.cell (HC'.out k _ (u64s_at hx)) (fun h => h)
        have k0 : (0 : Int) ≤ (k : Int) := by omega
        have k1 : (k : Int) < (xs.length : Int) := by omega
        clear hx
        go_wp2
        go_quiet (fail)
        go_wp2
        go_roundw
        case rel => exact ⟨k + 1, by omega, by go_num, HKK.out.drewN _⟩
        case measure => simp [intOf]; omega
      · obtain rfl : k = xs.length := by omega
        go_wp2
        go_ret
        exact ⟨rfl, HKK.out⟩

set_option maxHeartbeats 1000000 in
theorem eqA_yes (va vb : Value) (xs : List Acc) (w : World) (h1 : Rd w 6 va xs.length (logCells xs)) (h2 : Rd w 6 vb xs.length (logCells xs)) (hm : xs.length ≤ 1000000000000) :
    Calls Tryz.prog 47 #[va, vb] w fun e w' => e = .returned (.bool true) ∧ Keep Nil w w' := by
  by_cases h0 : xs.length = 0
  · rw [h0] at h1 h2
    obtain ⟨a, c, rfl, -, -⟩ := h1
    obtain ⟨a', c', rfl, -, -⟩ := h2
    clear h0
    go_enter Tryz.func47, Tryz.ntmps47
    go_wp2
    go_rounds 1
    go_ret
    exact ⟨rfl, Keep.refl _ _⟩
  · obtain ⟨b, off, c, rfl, hc⟩ := Rd.cell h1 (by omega)
    obtain ⟨b', off', c', rfl, hc'⟩ := Rd.cell h2 (by omega)
    have HC := hid hc
    have HC' := hid hc'
    clear hc hc' h1 h2 h0
    go_enter Tryz.func47, Tryz.ntmps47
    go_wp2
    go_loopw [5] (fun i wr => ∃ k : Nat, k ≤ xs.length ∧ i = .int .i64 k ∧ Keep Nil w wr) (fun i _ => xs.length - (intOf i).toNat)
    case atStart => exact ⟨0, Nat.zero_le _, rfl, Keep.refl _ _⟩
    case round =>
      obtain ⟨k, hk, rfl, hkk⟩ := hrel
      have HKK := hid hkk
      clear hkk
      by_cases hlt : k < xs.length
      · obtain ⟨x, hx⟩ : ∃ x, xs[k]? = some x := ⟨_, List.getElem?_eq_getElem hlt⟩
        have q : ∀ j u, x.cells[j]? = some u → wr.cell? ⟨b, off + k * 6 + j, none⟩ = some u := fun j u hu => by rw [Nat.add_assoc]; exact HKK.out.cell (HC.out (k * 6 + j) _ (logCells_at hx hu)) (fun h => h)
        have q' : ∀ j u, x.cells[j]? = some u → wr.cell? ⟨b', off' + k * 6 + j, none⟩ = some u := fun j u hu => by rw [Nat.add_assoc]; exact HKK.out.cell (HC'.out (k * 6 + j) _ (logCells_at hx hu)) (fun h => h)
        have c0 : wr.cell? ⟨b, off + k * 6, none⟩ = some (.int .i64 x.t) := q 0 _ rfl
        have c1 := q 1 _ rfl
        have c2 := q 2 _ rfl
        have c3 := q 3 _ rfl
        have c4 := q 4 _ rfl
        have c5 := q 5 _ rfl
        have d0 : wr.cell? ⟨b', off' + k * 6, none⟩ = some (.int .i64 x.t) := q' 0 _ rfl
        have d1 := q' 1 _ rfl
        have d2 := q' 2 _ rfl
        have d3 := q' 3 _ rfl
        have d4 := q' 4 _ rfl
        have d5 := q' 5 _ rfl
        have k0 : (0 : Int) ≤ (k : Int) := by omega
        have k1 : (k : Int) < (xs.length : Int) := by omega
        clear hx q q'
        go_wp2
        go_quiet (fail)
        go_wp2
        go_roundw
        case rel => exact ⟨k + 1, by omega, by go_num, HKK.out.drewN _⟩
        case measure => simp [intOf]; omega
      · obtain rfl : k = xs.length := by omega
        go_wp2
        go_ret
        exact ⟨rfl, HKK.out⟩
end Go.Proofs.YtjghenomeindcaaGreat

/-! leapfrogkit.EqualInts: two equal lists are reported equal. -/
namespace Go.Proofs.YtjghenomeindcaaGreat
open Go.RowKit Go.Lf
theorem ints_at {xs : List Int} {k : Nat} {x : Int} (h : xs[k]? = some x) : (xs.map (Value.int .i64))[k]? = some (.int .i64 x) := by simp [h]
set_option maxHeartbeats 1000000 in
theorem eqI_yes (va vb : Value) (xs : List Int) (w : World) (h1 : Rd w 1 va xs.length (xs.map (Value.int .i64))) (h2 : Rd w 1 vb xs.length (xs.map (Value.int .i64))) (hm : xs.length ≤ 1000000000000) :
    Calls Tryz.prog 21 #[va, vb] w fun e w' => e = .returned (.bool true) ∧ Keep Nil w w' := by
  by_cases h0 : xs.length = 0
  · rw [h0] at h1 h2
    obtain ⟨a, c, rfl, -, -⟩ := h1
    obtain ⟨a', c', rfl, -, -⟩ := h2
    clear h0
    go_enter Tryz.func21, Tryz.ntmps21
    go_wp2
    go_rounds 1
    go_ret
    exact ⟨rfl, Keep.refl _ _⟩
  · obtain ⟨b, off, c, rfl, hc⟩ := Rd.cell h1 (by omega)
    obtain ⟨b', off', c', rfl, hc'⟩ := Rd.cell h2 (by omega)
    have HC := hid hc
    have HC' := hid hc'
    clear hc hc' h1 h2 h0
    go_enter Tryz.func21, Tryz.ntmps21
    go_wp2
    go_loopw [5] (fun i wr => ∃ k : Nat, k ≤ xs.length ∧ i = .int .i64 k ∧ Keep Nil w wr) (fun i _ => xs.length - (intOf i).toNat)
    case atStart => exact ⟨0, Nat.zero_le _, rfl, Keep.refl _ _⟩
    case round =>
      obtain ⟨k, hk, rfl, hkk⟩ := hrel
      have HKK := hid hkk
      clear hkk
      by_cases hlt : k < xs.length
      · obtain ⟨x, hx⟩ : ∃ x, xs[k]? = some x := ⟨_, List.getElem?_eq_getElem hlt⟩
        have hcx : wr.cell? ⟨b, off + k, none⟩ = some (.int .i64 x) := HKK.out.cell (HC.out k _ (ints_at hx)) (fun h => h)
        have hcy : wr.cell? ⟨b', off' + k, none⟩ = some (.int .i64 x) := HKK.out.cell (HC'.out k _ (ints_at hx)) (fun h => h)
        have k0 : (0 : Int) ≤ (k : Int) := by omega
        have k1 : (k : Int) < (xs.length : Int) := by omega
        clear hx
        go_wp2
        go_quiet (fail)
        go_wp2
        go_roundw
        case rel => exact ⟨k + 1, by omega, by go_num, HKK.out.drewN _⟩
        case measure => simp [intOf]; omega
      · obtain rfl : k = xs.length := by omega
        go_wp2
        go_ret
        exact ⟨rfl, HKK.out⟩

end Go.Proofs.YtjghenomeindcaaGreat

/-! What the methods of leapfrogref08.Mem do: contracts over a reference memory that is described by its words and its log. -/
namespace Go.Proofs.YtjghenomeindcaaGreat
open Go.RowKit Go.Lf

/-- The reference memory at block b. -/
structure RefRep (w : World) (b gw wc : Nat) (la : Option Addr) (lc : Nat) (ws : List Int) (log : List Acc) : Prop where
  head : w.heap[b]? = some (.cells #[.slice (some ⟨gw, 0, none⟩) ws.length wc, .slice la log.length lc] 105 (0, 0))
  wrow : w.ownsRow 0 54 1 (.slice (some ⟨gw, 0, none⟩) ws.length wc) ws.length (u64s ws)
  lrow : w.ownsRow 0 202 6 (.slice la log.length lc) log.length (logCells log)
  ne1 : b ≠ gw
  ne2 : (Value.slice la log.length lc).ownBlock ≠ some b
  ne3 : (Value.slice la log.length lc).ownBlock ≠ some gw

def RefAt (w : World) (b : Nat) (F : Nat → Prop) (ws : List Int) (log : List Acc) : Prop :=
  ∃ gw wc la lc, RefRep w b gw wc la lc ws log ∧ ∀ k, F k ↔ k = b ∨ k = gw ∨ (Value.slice la log.length lc).ownBlock = some k
def RefTo (w : World) (b : Nat) (F : Nat → Prop) (ws : List Int) (log : List Acc) (w' : World) : Prop :=
  ∃ F', RefAt w' b F' ws log ∧ Keep F w w' ∧ Foot w F F'

theorem RefRep.cell0 {w : World} {b gw wc lc : Nat} {la : Option Addr} {ws : List Int} {log : List Acc} (h : RefRep w b gw wc la lc ws log) : w.cell? ⟨b, 0, none⟩ = some (.slice (some ⟨gw, 0, none⟩) ws.length wc) := by rw [cell_of h.head]; rfl
theorem RefRep.cell1 {w : World} {b gw wc lc : Nat} {la : Option Addr} {ws : List Int} {log : List Acc} (h : RefRep w b gw wc la lc ws log) : w.cell? ⟨b, 1, none⟩ = some (.slice la log.length lc) := by rw [cell_of h.head]; rfl
theorem RefRep.word {w : World} {b gw wc lc : Nat} {la : Option Addr} {ws : List Int} {log : List Acc} (h : RefRep w b gw wc la lc ws log) {i : Nat} {x : Int} (hx : ws[i]? = some x) : w.cell? ⟨gw, i, none⟩ = some (.int .u64 x) := by
  rw [h.wrow.cellAt i (by have := lt_of_at hx; omega)]; exact u64s_at hx
theorem RefRep.free {w : World} {b gw wc lc : Nat} {la : Option Addr} {ws : List Int} {log : List Acc} (h : RefRep w b gw wc la lc ws log) (i : Nat) : w.frozen? ⟨gw, i, none⟩ = false := h.wrow.frozenAt i
theorem RefRep.lt2 {w : World} {b gw wc lc : Nat} {la : Option Addr} {ws : List Int} {log : List Acc} (h : RefRep w b gw wc la lc ws log) : gw < w.heap.size := (h.wrow.lt gw rfl).2
theorem RefAt.rep {w : World} {b : Nat} {F : Nat → Prop} {ws : List Int} {log : List Acc} (h : RefAt w b F ws log) : ∃ gw wc la lc, RefRep w b gw wc la lc ws log ∧ ∀ k, F k ↔ k = b ∨ k = gw ∨ (Value.slice la log.length lc).ownBlock = some k := h
theorem RefAt.lt {w : World} {b : Nat} {F : Nat → Prop} {ws : List Int} {log : List Acc} (h : RefAt w b F ws log) : ∀ k, F k → k < w.heap.size := by
  obtain ⟨gw, wc, la, lc, h, hF⟩ := h
  intro k hk
  rcases (hF k).1 hk with rfl | rfl | hk
  · exact lt_of_block h.head
  · exact h.lt2
  · exact (h.lrow.lt k hk).2
theorem RefAt.keep {w w' : World} {b : Nat} {F S : Nat → Prop} {ws : List Int} {log : List Acc} (h : RefAt w b F ws log) (hk : Keep S w w') (hd : ∀ k, F k → ¬ S k) : RefAt w' b F ws log := by
  obtain ⟨gw, wc, la, lc, h, hF⟩ := h
  refine ⟨gw, wc, la, lc, ⟨hk.at h.head (hd b ((hF b).2 (.inl rfl))), row_keep h.wrow hk (fun k e => hd k ((hF k).2 (.inr (.inl ?_)))), row_keep h.lrow hk (fun k e => hd k ((hF k).2 (.inr (.inr e)))), h.ne1, h.ne2, h.ne3⟩, hF⟩
  simp [Value.ownBlock] at e
  exact e.symm
theorem RefAt.has {w : World} {b : Nat} {F : Nat → Prop} {ws : List Int} {log : List Acc} (h : RefAt w b F ws log) : F b := by
  obtain ⟨gw, wc, la, lc, h, hF⟩ := h
  exact (hF b).2 (.inl rfl)

set_option maxHeartbeats 1000000 in
theorem access_any {b : Nat} {F : Nat → Prop} {ws : List Int} {log : List Acc} {w : World} (h : RefAt w b F ws log) (t i k v x : Int) (sw : Bool) (hi0 : 0 ≤ i) (hx : ws[i.toNat]? = some x) (hn : log.length < 1000000000000) :
    Calls Tryz.prog 141 #[.pointer (some ⟨b, 0, none⟩), .int .i64 t, .int .i64 i, .int .u8 k, .int .u64 v, .bool sw] w fun e w' => e = .returned (.tuple #[]) ∧ RefTo w b F (ws.set i.toNat v) (log ++ [⟨t, i, k, x, v, sw⟩]) w' := by
  obtain ⟨gw, wc, la, lc, hr, hF⟩ := h.rep
  obtain ⟨n, rfl⟩ := Int.eq_ofNat_of_zero_le hi0
  rw [Int.toNat_natCast] at hx ⊢
  have hlt : n < ws.length := lt_of_at hx
  have hc0 := hr.cell0
  have hcx := hr.word hx
  have hfx := hr.free n
  have hb := lt_of_block hr.head
  have hg := hr.lt2
  have HR := hid hr
  have HX := hid hx
  clear hr hx
  go_enter Tryz.func141, Tryz.ntmps141
  go_wp2
  obtain ⟨W, hW⟩ : ∃ W, W = (w.setCell ⟨gw, n, none⟩ (.int .u64 v)).alloc (.cells #[.int .i64 t, .int .i64 n, .int .u8 k, .int .u64 x, .int .u64 v, .bool sw] 202) := ⟨_, rfl⟩
  rw [← hW]
  have kW : Keep F w W := by rw [hW]; exact Keep.alloc (Keep.setCell (Keep.refl _ _) (.inl ((hF gw).2 (.inr (.inl rfl)))) _) _
  have hzW : W.heap.size = w.heap.size + 1 := by rw [hW]; simp
  have hbW : W.heap[b]? = some (.cells #[.slice (some ⟨gw, 0, none⟩) ws.length wc, .slice la log.length lc] 105 (0, 0)) := by
    rw [hW]; exact alloc_old (set_other HR.out.head (by simpa using HR.out.ne1) _) _
  have hwW : W.ownsRow 0 54 1 (.slice (some ⟨gw, 0, none⟩) (ws.set n v).length wc) (ws.set n v).length (u64s (ws.set n v)) := by
    rw [hW, ← u64s_set, List.length_set]; exact (HR.out.wrow.stored n _).1.alloc _
  have hlW : W.ownsRow 0 202 6 (.slice la log.length lc) log.length (logCells log) := by
    rw [hW]; exact (ownsRow_setCell_other HR.out.lrow (by simpa using HR.out.ne3) _).alloc _
  have haW : W.heap[w.heap.size]? = some (.cells (Acc.mk t n k x v sw).cells.toArray 202 (0, 0)) := by
    rw [hW]; simpa [Acc.cells] using heap_alloc_new (w.setCell ⟨gw, n, none⟩ (.int .u64 v)) _
  have c1 : W.cell? ⟨b, 1, none⟩ = some (.slice la log.length lc) := by rw [cell_of hbW]; rfl
  have a0 : W.cell? ⟨w.heap.size, 0, none⟩ = some (.int .i64 t) := by rw [cell_of haW]; rfl
  have a1 : W.cell? ⟨w.heap.size, 1, none⟩ = some (.int .i64 n) := by rw [cell_of haW]; rfl
  have a2 : W.cell? ⟨w.heap.size, 2, none⟩ = some (.int .u8 k) := by rw [cell_of haW]; rfl
  have a3 : W.cell? ⟨w.heap.size, 3, none⟩ = some (.int .u64 x) := by rw [cell_of haW]; rfl
  have a4 : W.cell? ⟨w.heap.size, 4, none⟩ = some (.int .u64 v) := by rw [cell_of haW]; rfl
  have a5 : W.cell? ⟨w.heap.size, 5, none⟩ = some (.bool sw) := by rw [cell_of haW]; rfl
  have HZ := hid hzW
  have HB := hid hbW
  have HW := hid hwW
  have HL := hid hlW
  have hbz : b < W.heap.size := lt_of_block hbW
  clear hW hzW hbW hwW hlW haW hc0 hcx hfx
  go_region_law (refine step_app _ rfl (.tmp 37) (.tmp 39) 102 rfl 202 _ 6 48 Tryz.underlying102 infoAcc rfl (by decide) (.slice la log.length lc) log.length (logCells log) (by simp [Act.eval]) ((row_drew HL.out).alloc _) _ 1 (Acc.mk t n k x v sw).cells (by simp [Act.eval]) (rd_new _ _ _ _ _ _) (by simp [Acc.cells, Value.oneCell']) (by omega) (by unfold maxLen; omega) ?_; intro la' lc' w1 ho hg hs; have hb1 : w1.heap[b]? = some (.cells #[.slice (some ⟨gw, 0, none⟩) ws.length wc, .slice la log.length lc] 105 (0, 0)) := (hg.block b (by simp; omega) (fun e => HR.out.ne2 e.symm)).trans (alloc_old HB.out _); have hf1 : w1.frozen? ⟨b, 1, none⟩ = false := free_of hb1 1; have hc1 : w1.cell? ⟨b, 1, none⟩ = some (.slice la log.length lc) := (by rw [cell_of hb1]; rfl); have HO := hid ho; have HG := hid hg; have HS := hid hs; have HB1 := hid hb1; clear ho hg hs hb1)
  all_goals
    go_wp2
    go_end0
    refine ⟨rfl, fun j => j = b ∨ j = gw ∨ (Value.slice la' (log.length + 1) lc').ownBlock = some j, ⟨gw, wc, la', lc', ⟨?_, ?_, ?_, HR.out.ne1, ?_, ?_⟩, fun j => by simp⟩, ?_, ?_⟩
    · rw [set_same HB1.out]; simp
    · refine ownsRow_setCell_other (row_grown (row_drew (HW.out.alloc _)) HG.out (fun j hj e => ?_)) (by simpa [Value.ownBlock] using Ne.symm HR.out.ne1) _
      simp [Value.ownBlock] at hj; subst hj; exact HR.out.ne3 e
    · rw [logCells_snoc, List.length_append]
      refine ownsRow_setCell_other HO.out (fun e => ?_) _
      rcases HS.out b e with h | h
      · exact HR.out.ne2 h
      · simp at h; omega
    · rw [List.length_append]
      intro e
      rcases HS.out b e with h | h
      · exact HR.out.ne2 h
      · simp at h; omega
    · rw [List.length_append]
      intro e
      have hz := HZ.out
      rcases HS.out gw e with h | h
      · exact HR.out.ne3 h
      · simp at h; omega
    · refine kW.trans (Keep.setCell (Keep.grown (S := F) ((Keep.refl _ _).alloc _ |>.drew) HG.out (fun j hj => .inl ((hF j).2 (.inr (.inr hj))))) (.inl ((hF b).2 (.inl rfl))) _) (fun _ _ h => h)
    · intro j hj
      have hz := HZ.out
      rcases hj with rfl | rfl | hj
      · exact .inl ((hF _).2 (.inl rfl))
      · exact .inl ((hF _).2 (.inr (.inl rfl)))
      · rcases HS.out j hj with h | h
        · exact .inl ((hF _).2 (.inr (.inr h)))
        · exact .inr (by simp at h; omega)
end Go.Proofs.YtjghenomeindcaaGreat

/-! leapfrogref08: check, Thread, New, Load, Store, Add, CompareAndSwap, Peek, Log: contracts. -/
namespace Go.Proofs.YtjghenomeindcaaGreat
open Go.RowKit Go.Lf

set_option maxHeartbeats 400000 in
theorem thread_yes (t : Int) (h0 : 0 ≤ t) (h1 : t < 64) (w : World) : Calls Tryz.prog 83 #[.int .i64 t] w fun e w' => e = .returned (.bool true) ∧ w = w' := by
  have e0 : decide (0 ≤ t) = true := by simpa using h0
  have e1 : decide (t < 64) = true := by simpa using h1
  go_enter Tryz.func83, Tryz.ntmps83
  go_wp2
  go_ret
  exact ⟨rfl, rfl⟩
set_option maxHeartbeats 400000 in
theorem thread_no (t : Int) (h : t < 0 ∨ 64 ≤ t) (w : World) : Calls Tryz.prog 83 #[.int .i64 t] w fun e w' => e = .returned (.bool false) ∧ w = w' := by
  by_cases h0 : 0 ≤ t
  · have e0 : decide (0 ≤ t) = true := by simpa using h0
    have e1 : decide (t < 64) = false := by simp; omega
    clear h
    go_enter Tryz.func83, Tryz.ntmps83
    go_wp2
    go_ret
    exact ⟨rfl, rfl⟩
  · have e0 : decide (0 ≤ t) = false := by simpa using h0
    clear h h0
    go_enter Tryz.func83, Tryz.ntmps83
    go_wp2
    go_ret
    exact ⟨rfl, rfl⟩

section
variable {b : Nat} {F : Nat → Prop} {ws : List Int} {log : List Acc} {w : World}

set_option maxHeartbeats 400000 in
theorem rcheck_any (b : Nat) (t i : Int) (aw : Option Addr) (n c : Nat) (w : World) (hc : w.cell? ⟨b, 0, none⟩ = some (.slice aw n c)) :
    Calls Tryz.prog 140 #[.pointer (some ⟨b, 0, none⟩), .int .i64 t, .int .i64 i] w fun e w' => e = .returned (.int .i64 (errOf t i n)) ∧ w = w' := by
  by_cases hT : 0 ≤ t ∧ t < 64
  · by_cases hI : i < 0 ∨ (n : Int) ≤ i
    · have hE : errOf t i n = 3 := by unfold errOf; rw [if_neg (by omega), if_pos hI]
      rw [hE]
      clear hE
      rcases Int.lt_or_le i 0 with h | h
      · clear hI
        go_enter Tryz.func140, Tryz.ntmps140
        go_wp2_with (go_at_call 83; refine (thread_yes _ hT.1 hT.2 _).mono ?_; rintro e w' ⟨rfl, rfl⟩)
        go_ret
        exact ⟨rfl, rfl⟩
      · have h2 : (n : Int) ≤ i := by omega
        clear hI
        go_enter Tryz.func140, Tryz.ntmps140
        go_wp2_with (go_at_call 83; refine (thread_yes _ hT.1 hT.2 _).mono ?_; rintro e w' ⟨rfl, rfl⟩)
        go_ret
        exact ⟨rfl, rfl⟩
    · have hE : errOf t i n = 0 := errOf_zero.2 (by omega)
      have h1 : 0 ≤ i := by omega
      have h2 : i < (n : Int) := by omega
      rw [hE]
      clear hE hI
      go_enter Tryz.func140, Tryz.ntmps140
      go_wp2_with (go_at_call 83; refine (thread_yes _ hT.1 hT.2 _).mono ?_; rintro e w' ⟨rfl, rfl⟩)
      go_ret
      exact ⟨rfl, rfl⟩
  · have hE : errOf t i n = 2 := by unfold errOf; rw [if_pos (by omega)]
    have hT' := hid hT
    rw [hE]
    clear hE hT
    go_enter Tryz.func140, Tryz.ntmps140
    go_wp2_with (go_at_call 83; refine (thread_no _ (by have := hT'.out; omega) _).mono ?_; rintro e w' ⟨rfl, rfl⟩)
    go_ret
    exact ⟨rfl, rfl⟩

/-- check at a thread and an address that exist. -/
theorem rcheck_ok (b : Nat) (t i : Int) (aw : Option Addr) (n c : Nat) (w : World) (hc : w.cell? ⟨b, 0, none⟩ = some (.slice aw n c)) (ht0 : 0 ≤ t) (ht1 : t < 64) (hi0 : 0 ≤ i) (hi1 : i < n) :
    Calls Tryz.prog 140 #[.pointer (some ⟨b, 0, none⟩), .int .i64 t, .int .i64 i] w fun e w' => e = .returned (.int .i64 0) ∧ w = w' := by
  have h := rcheck_any b t i aw n c w hc
  rwa [errOf_zero.2 ⟨ht0, ht1, hi0, hi1⟩] at h

set_option maxHeartbeats 400000 in
theorem rload_ok (h : RefAt w b F ws log) (t i x : Int) (ht0 : 0 ≤ t) (ht1 : t < 64) (hi0 : 0 ≤ i) (hx : ws[i.toNat]? = some x) (hn : log.length < 1000000000000) :
    Calls Tryz.prog 132 #[.pointer (some ⟨b, 0, none⟩), .int .i64 t, .int .i64 i] w fun e w' => e = .returned (.tuple #[.int .u64 x, .int .i64 0]) ∧ RefTo w b F ws (log ++ [⟨t, i, 1, x, x, false⟩]) w' := by
  obtain ⟨gw, wc, la, lc, hr, hF⟩ := h.rep
  have ha := access_any h t i 1 x x false hi0 hx hn
  obtain ⟨n, rfl⟩ := Int.eq_ofNat_of_zero_le hi0
  rw [Int.toNat_natCast] at hx ha
  have hs : ws.set n x = ws := set_self hx
  rw [hs] at ha
  have hlt : n < ws.length := lt_of_at hx
  have hc0 := hr.cell0
  have hcx := hr.word hx
  have HA := hid ha
  clear hx hr ha hs
  go_enter Tryz.func132, Tryz.ntmps132
  go_wp2_with (first | (go_at_call 140; refine (rcheck_ok _ _ _ _ _ _ _ hc0 ht0 ht1 (by omega) (by omega)).mono ?_; rintro e w' ⟨rfl, rfl⟩) | (go_at_call 141; refine HA.out.mono ?_; rintro e w' ⟨rfl, hto⟩))
  go_ret2
  exact ⟨rfl, hto⟩

set_option maxHeartbeats 400000 in
theorem rload_err (h : RefAt w b F ws log) (t i : Int) (he : errOf t i ws.length ≠ 0) :
    Calls Tryz.prog 132 #[.pointer (some ⟨b, 0, none⟩), .int .i64 t, .int .i64 i] w fun e w' => e = .returned (.tuple #[.int .u64 0, .int .i64 (errOf t i ws.length)]) ∧ w = w' := by
  obtain ⟨gw, wc, la, lc, hr, hF⟩ := h.rep
  have hc0 := hr.cell0
  clear hr
  have hne : (errOf t i ws.length != 0) = true := by simpa using he
  go_enter Tryz.func132, Tryz.ntmps132
  go_wp2_with (go_at_call 140; refine (rcheck_any _ _ _ _ _ _ _ hc0).mono ?_; rintro e w' ⟨rfl, rfl⟩)
  go_ret2
  exact ⟨rfl, rfl⟩

set_option maxHeartbeats 400000 in
theorem rstore_ok (h : RefAt w b F ws log) (t i x v : Int) (ht0 : 0 ≤ t) (ht1 : t < 64) (hi0 : 0 ≤ i) (hx : ws[i.toNat]? = some x) (hn : log.length < 1000000000000) :
    Calls Tryz.prog 103 #[.pointer (some ⟨b, 0, none⟩), .int .i64 t, .int .i64 i, .int .u64 v] w fun e w' => e = .returned (.int .i64 0) ∧ RefTo w b F (ws.set i.toNat v) (log ++ [⟨t, i, 2, x, v, false⟩]) w' := by
  obtain ⟨gw, wc, la, lc, hr, hF⟩ := h.rep
  have ha := access_any h t i 2 v x false hi0 hx hn
  have hlt := lt_of_at hx
  have hc0 := hr.cell0
  have HA := hid ha
  clear hx hr ha
  go_enter Tryz.func103, Tryz.ntmps103
  go_wp2_with (first | (go_at_call 140; refine (rcheck_ok _ _ _ _ _ _ _ hc0 ht0 ht1 (by omega) (by omega)).mono ?_; rintro e w' ⟨rfl, rfl⟩) | (go_at_call 141; refine HA.out.mono ?_; rintro e w' ⟨rfl, hto⟩))
  go_ret
  exact ⟨rfl, hto⟩

set_option maxHeartbeats 400000 in
theorem rstore_err (h : RefAt w b F ws log) (t i v : Int) (he : errOf t i ws.length ≠ 0) :
    Calls Tryz.prog 103 #[.pointer (some ⟨b, 0, none⟩), .int .i64 t, .int .i64 i, .int .u64 v] w fun e w' => e = .returned (.int .i64 (errOf t i ws.length)) ∧ w = w' := by
  obtain ⟨gw, wc, la, lc, hr, hF⟩ := h.rep
  have hc0 := hr.cell0
  clear hr
  have hne : (errOf t i ws.length != 0) = true := by simpa using he
  go_enter Tryz.func103, Tryz.ntmps103
  go_wp2_with (go_at_call 140; refine (rcheck_any _ _ _ _ _ _ _ hc0).mono ?_; rintro e w' ⟨rfl, rfl⟩)
  go_ret
  exact ⟨rfl, rfl⟩

set_option maxHeartbeats 400000 in
theorem rcas_yes (h : RefAt w b F ws log) (t i x v : Int) (ht0 : 0 ≤ t) (ht1 : t < 64) (hi0 : 0 ≤ i) (hx : ws[i.toNat]? = some x) (hn : log.length < 1000000000000) :
    Calls Tryz.prog 104 #[.pointer (some ⟨b, 0, none⟩), .int .i64 t, .int .i64 i, .int .u64 x, .int .u64 v] w fun e w' => e = .returned (.tuple #[.bool true, .int .i64 0]) ∧
      RefTo w b F (ws.set i.toNat v) (log ++ [⟨t, i, 4, x, v, true⟩]) w' := by
  obtain ⟨gw, wc, la, lc, hr, hF⟩ := h.rep
  have ha := access_any h t i 4 v x true hi0 hx hn
  obtain ⟨n, rfl⟩ := Int.eq_ofNat_of_zero_le hi0
  rw [Int.toNat_natCast] at hx ha ⊢
  have hlt := lt_of_at hx
  have hc0 := hr.cell0
  have hcx := hr.word hx
  have HA := hid ha
  clear hx hr ha
  go_enter Tryz.func104, Tryz.ntmps104
  go_wp2_with (first | (go_at_call 140; refine (rcheck_ok _ _ _ _ _ _ _ hc0 ht0 ht1 (by omega) (by omega)).mono ?_; rintro e w' ⟨rfl, rfl⟩) | (go_at_call 141; refine HA.out.mono ?_; rintro e w' ⟨rfl, hto⟩))
  go_ret2
  exact ⟨rfl, hto⟩

set_option maxHeartbeats 400000 in
theorem rcas_no (h : RefAt w b F ws log) (t i x o v : Int) (ht0 : 0 ≤ t) (ht1 : t < 64) (hi0 : 0 ≤ i) (hx : ws[i.toNat]? = some x) (hne : x ≠ o) (hn : log.length < 1000000000000) :
    Calls Tryz.prog 104 #[.pointer (some ⟨b, 0, none⟩), .int .i64 t, .int .i64 i, .int .u64 o, .int .u64 v] w fun e w' => e = .returned (.tuple #[.bool false, .int .i64 0]) ∧
      RefTo w b F ws (log ++ [⟨t, i, 4, x, x, false⟩]) w' := by
  obtain ⟨gw, wc, la, lc, hr, hF⟩ := h.rep
  have ha := access_any h t i 4 x x false hi0 hx hn
  obtain ⟨n, rfl⟩ := Int.eq_ofNat_of_zero_le hi0
  rw [Int.toNat_natCast] at hx ha
  rw [set_self hx] at ha
  have hlt := lt_of_at hx
  have hc0 := hr.cell0
  have hcx := hr.word hx
  have hq : (x == o) = false := by simpa using hne
  have HA := hid ha
  clear hx hr ha hne
  go_enter Tryz.func104, Tryz.ntmps104
  go_wp2_with (first | (go_at_call 140; refine (rcheck_ok _ _ _ _ _ _ _ hc0 ht0 ht1 (by omega) (by omega)).mono ?_; rintro e w' ⟨rfl, rfl⟩) | (go_at_call 141; refine HA.out.mono ?_; rintro e w' ⟨rfl, hto⟩))
  go_ret2
  exact ⟨rfl, hto⟩

set_option maxHeartbeats 400000 in
theorem rcas_err (h : RefAt w b F ws log) (t i o v : Int) (he : errOf t i ws.length ≠ 0) :
    Calls Tryz.prog 104 #[.pointer (some ⟨b, 0, none⟩), .int .i64 t, .int .i64 i, .int .u64 o, .int .u64 v] w fun e w' => e = .returned (.tuple #[.bool false, .int .i64 (errOf t i ws.length)]) ∧ w = w' := by
  obtain ⟨gw, wc, la, lc, hr, hF⟩ := h.rep
  have hc0 := hr.cell0
  clear hr
  have hne : (errOf t i ws.length != 0) = true := by simpa using he
  go_enter Tryz.func104, Tryz.ntmps104
  go_wp2_with (go_at_call 140; refine (rcheck_any _ _ _ _ _ _ _ hc0).mono ?_; rintro e w' ⟨rfl, rfl⟩)
  go_ret2
  exact ⟨rfl, rfl⟩

end
end Go.Proofs.YtjghenomeindcaaGreat

/-! leapfrogref08: New and Log: contracts. -/
namespace Go.Proofs.YtjghenomeindcaaGreat
open Go.RowKit Go.Lf

def RNewTo (w : World) (ws : List Int) (e : Ending) (w' : World) : Prop :=
  ∃ b F, e = .returned (.tuple #[.pointer (some ⟨b, 0, none⟩), .int .i64 0]) ∧ RefAt w' b F ws [] ∧ Keep Nil w w' ∧ Foot w Nil F

set_option maxHeartbeats 400000 in
theorem rnew_err (a : Option Addr) (n c : Nat) (w : World) (hn : n = 0 ∨ 65536 < n) (hm : n ≤ maxLen) :
    Calls Tryz.prog 31 #[.slice a n c] w fun e w' => e = .returned (.tuple #[.pointer none, .int .i64 (szErr n)]) ∧ w = w' := by
  unfold maxLen at hm
  rcases hn with rfl | hn
  · rw [szErr_zero (by omega)]
    go_enter Tryz.func31, Tryz.ntmps31
    go_wp2
    go_ret2
    exact ⟨rfl, rfl⟩
  · rw [szErr_big (by omega)]
    have h1 : ((n : Int) == 0) = false := by simp; omega
    have h2 : 65536 < (n : Int) := by omega
    clear hn
    go_enter Tryz.func31, Tryz.ntmps31
    go_wp2
    go_ret2
    exact ⟨rfl, rfl⟩

set_option maxHeartbeats 1000000 in
theorem rnew_ok (v : Value) (ws : List Int) (w : World) (hrd : Rd w 1 v ws.length (u64s ws)) (h0 : 0 < ws.length) (h1 : ws.length ≤ 65536) :
    Calls Tryz.prog 31 #[v] w (RNewTo w ws) := by
  obtain ⟨b, off, c, rfl, hc⟩ := Rd.cell hrd h0
  have g1 : ((ws.length : Int) == 0) = false := beq_eq_false_iff_ne.2 (by omega)
  have HC := hid hc
  have HRD := hid hrd
  clear hc hrd
  go_enter Tryz.func31, Tryz.ntmps31
  go_wp2_with (at_builtin; refine wpList_app _ rfl (.tmp 10) (.tmp 11) 37 rfl 54 _ 1 8 Tryz.underlying37 infoU64 rfl (by decide) (.slice (some ⟨w.heap.size, 0, none⟩) 0 0) 0 [] rfl ?own (.slice (some ⟨b, off, none⟩) ws.length c) ws.length (u64s ws) rfl ?rd ?one ?byt ?len ?_)
  case own => exact ⟨rfl, .inr ⟨_, 0, #[], rfl, Nat.zero_le _, heap_alloc_new w _, Nat.le_refl _, Nat.zero_le _, rfl, rfl⟩⟩
  case rd => exact rd_keep HRD.out (Keep.alloc (Keep.refl Nil _) _) (fun _ _ h => h)
  case one => exact u64s_one _
  case byt => omega
  case len => unfold maxLen; omega
  intro a' c' w1 ho hg hs
  obtain ⟨g, rfl⟩ : ∃ g, a' = some ⟨g, 0, none⟩ := by
    rcases ho.2 with ⟨_, hz⟩ | ⟨g, cap, cur, hv, _⟩
    · omega
    · simp only [Value.slice.injEq] at hv; exact ⟨g, hv.1⟩
  have hgz : w.heap.size ≤ g := by
    rcases hs g rfl with h | h
    · simp [Value.ownBlock] at h; omega
    · simp at h; omega
  have HO := hid ho
  have HG := hid hg
  clear ho hg hs
  go_wp2
  go_ret2
  have k1 : Keep Nil w w1 := Keep.grown (Keep.alloc (Keep.refl _ _) _) HG.out (fun j hj => .inr (by simp [Value.ownBlock] at hj; omega))
  have hlt := HO.out.lt g rfl
  refine ⟨w1.heap.size, fun j => j = w1.heap.size ∨ j = g, rfl, ⟨g, c', none, 0, ⟨heap_alloc_new _ _, HO.out.alloc _, World.ownsRow_nil _ _ _ _, by omega, by simp [Value.ownBlock], by simp [Value.ownBlock]⟩, fun j => by simp [Value.ownBlock]⟩, k1.alloc _, fun j hj => .inr ?_⟩
  have := k1.size
  rcases hj with rfl | rfl <;> omega

section
variable {b : Nat} {F : Nat → Prop} {ws : List Int} {log : List Acc} {w : World}

theorem rlog_cells (h : RefAt w b F ws log) : ∃ la lc, w.cell? ⟨b, 1, none⟩ = some (.slice la log.length lc) ∧ log.length ≤ lc ∧ (0 < log.length → ∃ g, la = some ⟨g, 0, none⟩ ∧ ∀ j u, (logCells log)[j]? = some u → w.cell? ⟨g, j, none⟩ = some u) ∧ Rd w 6 (.slice la log.length lc) log.length (logCells log) := by
  obtain ⟨gw, wc, la, lc, hr, hF⟩ := h.rep
  refine ⟨la, lc, hr.cell1, ?_, ?_, row_rd hr.lrow⟩
  · rcases hr.lrow.2 with ⟨hv, h0⟩ | ⟨g', cap, cur, hv, _, _, hle, _⟩
    · omega
    · simp only [Value.slice.injEq] at hv; omega
  · intro h0
    rcases hr.lrow.2 with ⟨_, h0⟩ | ⟨g, cap, cur, hv, _⟩
    · omega
    · simp only [Value.slice.injEq] at hv
      obtain ⟨rfl, -, rfl⟩ := hv
      refine ⟨g, rfl, fun j u hu => ?_⟩
      rw [← hu]
      exact hr.lrow.cellAt j (by have := lt_of_at hu; rw [length_logCells] at this; exact this)
end
end Go.Proofs.YtjghenomeindcaaGreat

/-! leapfrogref16.Fits: contracts. -/
namespace Go.Proofs.YtjghenomeindcaaGreat
open Go.RowKit Go.Lf
section
variable {w : World} {mb : Nat} {F : Nat → Prop} {ws : List Int} {log : List Acc}
theorem rf_len (h : RefAt w mb F ws log) : ∃ gw wc, w.cell? ⟨mb, 0, none⟩ = some (.slice (some ⟨gw, 0, none⟩) ws.length wc) := by
  obtain ⟨gw, wc, la, lc, hr, -⟩ := h.rep
  exact ⟨gw, wc, hr.cell0⟩
set_option maxHeartbeats 400000 in
theorem fits_no (h : RefAt w mb F ws log) (base n : Int) (n0 : 1 ≤ n) (n1 : n ≤ 100000) (hm : ws.length ≤ 100000) (hb : base < 0 ∨ (ws.length : Int) < base + n) :
    Calls Tryz.prog 180 #[.pointer (some ⟨mb, 0, none⟩), .int .i64 base, .int .i64 n] w fun e w' => e = .returned (.bool false) ∧ w = w' := by
  obtain ⟨gw, wc, c0⟩ := rf_len h
  clear h
  by_cases h1 : 0 ≤ base
  · by_cases h2 : n ≤ (ws.length : Int)
    · have d3 : decide (base ≤ (ws.length : Int) - n) = false := decide_eq_false (by omega)
      have d1 : decide (0 ≤ base) = true := decide_eq_true h1
      have d2 : decide (n ≤ (ws.length : Int)) = true := decide_eq_true h2
      clear hb h1 h2
      go_enter Tryz.func180, Tryz.ntmps180
      go_wp2
      go_ret
      exact ⟨rfl, rfl⟩
    · have d1 : decide (0 ≤ base) = true := decide_eq_true h1
      have d2 : decide (n ≤ (ws.length : Int)) = false := decide_eq_false h2
      clear hb h1 h2
      go_enter Tryz.func180, Tryz.ntmps180
      go_wp2
      go_ret
      exact ⟨rfl, rfl⟩
  · have d1 : decide (0 ≤ base) = false := decide_eq_false h1
    clear hb h1
    go_enter Tryz.func180, Tryz.ntmps180
    go_wp2
    go_ret
    exact ⟨rfl, rfl⟩
set_option maxHeartbeats 400000 in
theorem fits_ok (h : RefAt w mb F ws log) (base n : Int) (n0 : 1 ≤ n) (hm : ws.length ≤ 100000) (b0 : 0 ≤ base) (hb : base + n ≤ (ws.length : Int)) :
    Calls Tryz.prog 180 #[.pointer (some ⟨mb, 0, none⟩), .int .i64 base, .int .i64 n] w fun e w' => e = .returned (.bool true) ∧ w = w' := by
  obtain ⟨gw, wc, c0⟩ := rf_len h
  clear h
  have d3 : decide (base ≤ (ws.length : Int) - n) = true := decide_eq_true (by omega)
  have d1 : decide (0 ≤ base) = true := decide_eq_true (by omega)
  have d2 : decide (n ≤ (ws.length : Int)) = true := decide_eq_true (by omega)
  go_enter Tryz.func180, Tryz.ntmps180
  go_wp2
  go_ret
  exact ⟨rfl, rfl⟩

end
end Go.Proofs.YtjghenomeindcaaGreat
