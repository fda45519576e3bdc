/- What the methods of leapfrogref08.Mem do: contracts over a reference memory that is described by its words and its log. -/
import Derived.Test.YtjghenomeindcaaGreatMemRead
namespace Go.Proofs.YtjghenomeindcaaGreat
open Go.RowKit Go.Lf

/-- The reference memory at block b. -/
structure RefRep (w : World) (b gw wc : Nat) (la : Option Addr) (lc : Nat) (ws : List Int) (log : List Acc) : Prop where
  head : w.heap[b]? = some (.cells #[.slice (some ⟨gw, 0, none⟩) ws.length wc, .slice la log.length lc] 105 (0, 0))
  wrow : w.ownsRow 0 54 1 (.slice (some ⟨gw, 0, none⟩) ws.length wc) ws.length (u64s ws)
  lrow : w.ownsRow 0 202 6 (.slice la log.length lc) log.length (logCells log)
  ne1 : b ≠ gw
  ne2 : (Value.slice la log.length lc).ownBlock ≠ some b
  ne3 : (Value.slice la log.length lc).ownBlock ≠ some gw

def RefAt (w : World) (b : Nat) (F : Nat → Prop) (ws : List Int) (log : List Acc) : Prop :=
  ∃ gw wc la lc, RefRep w b gw wc la lc ws log ∧ ∀ k, F k ↔ k = b ∨ k = gw ∨ (Value.slice la log.length lc).ownBlock = some k
def RefTo (w : World) (b : Nat) (F : Nat → Prop) (ws : List Int) (log : List Acc) (w' : World) : Prop :=
  ∃ F', RefAt w' b F' ws log ∧ Keep F w w' ∧ Foot w F F'

theorem RefRep.cell0 {w : World} {b gw wc lc : Nat} {la : Option Addr} {ws : List Int} {log : List Acc} (h : RefRep w b gw wc la lc ws log) : w.cell? ⟨b, 0, none⟩ = some (.slice (some ⟨gw, 0, none⟩) ws.length wc) := by rw [cell_of h.head]; rfl
theorem RefRep.cell1 {w : World} {b gw wc lc : Nat} {la : Option Addr} {ws : List Int} {log : List Acc} (h : RefRep w b gw wc la lc ws log) : w.cell? ⟨b, 1, none⟩ = some (.slice la log.length lc) := by rw [cell_of h.head]; rfl
theorem RefRep.word {w : World} {b gw wc lc : Nat} {la : Option Addr} {ws : List Int} {log : List Acc} (h : RefRep w b gw wc la lc ws log) {i : Nat} {x : Int} (hx : ws[i]? = some x) : w.cell? ⟨gw, i, none⟩ = some (.int .u64 x) := by
  rw [h.wrow.cellAt i (by have := lt_of_at hx; omega)]; exact u64s_at hx
theorem RefRep.free {w : World} {b gw wc lc : Nat} {la : Option Addr} {ws : List Int} {log : List Acc} (h : RefRep w b gw wc la lc ws log) (i : Nat) : w.frozen? ⟨gw, i, none⟩ = false := h.wrow.frozenAt i
theorem RefRep.lt2 {w : World} {b gw wc lc : Nat} {la : Option Addr} {ws : List Int} {log : List Acc} (h : RefRep w b gw wc la lc ws log) : gw < w.heap.size := (h.wrow.lt gw rfl).2
theorem RefAt.rep {w : World} {b : Nat} {F : Nat → Prop} {ws : List Int} {log : List Acc} (h : RefAt w b F ws log) : ∃ gw wc la lc, RefRep w b gw wc la lc ws log ∧ ∀ k, F k ↔ k = b ∨ k = gw ∨ (Value.slice la log.length lc).ownBlock = some k := h
theorem RefAt.lt {w : World} {b : Nat} {F : Nat → Prop} {ws : List Int} {log : List Acc} (h : RefAt w b F ws log) : ∀ k, F k → k < w.heap.size := by
  obtain ⟨gw, wc, la, lc, h, hF⟩ := h
  intro k hk
  rcases (hF k).1 hk with rfl | rfl | hk
  · exact lt_of_block h.head
  · exact h.lt2
  · exact (h.lrow.lt k hk).2
theorem RefAt.keep {w w' : World} {b : Nat} {F S : Nat → Prop} {ws : List Int} {log : List Acc} (h : RefAt w b F ws log) (hk : Keep S w w') (hd : ∀ k, F k → ¬ S k) : RefAt w' b F ws log := by
  obtain ⟨gw, wc, la, lc, h, hF⟩ := h
  refine ⟨gw, wc, la, lc, ⟨hk.at h.head (hd b ((hF b).2 (.inl rfl))), row_keep h.wrow hk (fun k e => hd k ((hF k).2 (.inr (.inl ?_)))), row_keep h.lrow hk (fun k e => hd k ((hF k).2 (.inr (.inr e)))), h.ne1, h.ne2, h.ne3⟩, hF⟩
  simp [Value.ownBlock] at e
  exact e.symm
theorem RefAt.has {w : World} {b : Nat} {F : Nat → Prop} {ws : List Int} {log : List Acc} (h : RefAt w b F ws log) : F b := by
  obtain ⟨gw, wc, la, lc, h, hF⟩ := h
  exact (hF b).2 (.inl rfl)

set_option maxHeartbeats 1000000 in
theorem access_any {b : Nat} {F : Nat → Prop} {ws : List Int} {log : List Acc} {w : World} (h : RefAt w b F ws log) (t i k v x : Int) (sw : Bool) (hi0 : 0 ≤ i) (hx : ws[i.toNat]? = some x) (hn : log.length < 1000000000000) :
    Calls Tryz.prog 141 #[.pointer (some ⟨b, 0, none⟩), .int .i64 t, .int .i64 i, .int .u8 k, .int .u64 v, .bool sw] w fun e w' => e = .returned (.tuple #[]) ∧ RefTo w b F (ws.set i.toNat v) (log ++ [⟨t, i, k, x, v, sw⟩]) w' := by
  obtain ⟨gw, wc, la, lc, hr, hF⟩ := h.rep
  obtain ⟨n, rfl⟩ := Int.eq_ofNat_of_zero_le hi0
  rw [Int.toNat_natCast] at hx ⊢
  have hlt : n < ws.length := lt_of_at hx
  have hc0 := hr.cell0
  have hcx := hr.word hx
  have hfx := hr.free n
  have hb := lt_of_block hr.head
  have hg := hr.lt2
  have HR := hid hr
  have HX := hid hx
  clear hr hx
  go_enter Tryz.func141, Tryz.ntmps141
  go_wp2
  obtain ⟨W, hW⟩ : ∃ W, W = (w.setCell ⟨gw, n, none⟩ (.int .u64 v)).alloc (.cells #[.int .i64 t, .int .i64 n, .int .u8 k, .int .u64 x, .int .u64 v, .bool sw] 202) := ⟨_, rfl⟩
  rw [← hW]
  have kW : Keep F w W := by rw [hW]; exact Keep.alloc (Keep.setCell (Keep.refl _ _) (.inl ((hF gw).2 (.inr (.inl rfl)))) _) _
  have hzW : W.heap.size = w.heap.size + 1 := by rw [hW]; simp
  have hbW : W.heap[b]? = some (.cells #[.slice (some ⟨gw, 0, none⟩) ws.length wc, .slice la log.length lc] 105 (0, 0)) := by
    rw [hW]; exact alloc_old (set_other HR.out.head (by simpa using HR.out.ne1) _) _
  have hwW : W.ownsRow 0 54 1 (.slice (some ⟨gw, 0, none⟩) (ws.set n v).length wc) (ws.set n v).length (u64s (ws.set n v)) := by
    rw [hW, ← u64s_set, List.length_set]; exact (HR.out.wrow.stored n _).1.alloc _
  have hlW : W.ownsRow 0 202 6 (.slice la log.length lc) log.length (logCells log) := by
    rw [hW]; exact (ownsRow_setCell_other HR.out.lrow (by simpa using HR.out.ne3) _).alloc _
  have haW : W.heap[w.heap.size]? = some (.cells (Acc.mk t n k x v sw).cells.toArray 202 (0, 0)) := by
    rw [hW]; simpa [Acc.cells] using heap_alloc_new (w.setCell ⟨gw, n, none⟩ (.int .u64 v)) _
  have c1 : W.cell? ⟨b, 1, none⟩ = some (.slice la log.length lc) := by rw [cell_of hbW]; rfl
  have a0 : W.cell? ⟨w.heap.size, 0, none⟩ = some (.int .i64 t) := by rw [cell_of haW]; rfl
  have a1 : W.cell? ⟨w.heap.size, 1, none⟩ = some (.int .i64 n) := by rw [cell_of haW]; rfl
  have a2 : W.cell? ⟨w.heap.size, 2, none⟩ = some (.int .u8 k) := by rw [cell_of haW]; rfl
  have a3 : W.cell? ⟨w.heap.size, 3, none⟩ = some (.int .u64 x) := by rw [cell_of haW]; rfl
  have a4 : W.cell? ⟨w.heap.size, 4, none⟩ = some (.int .u64 v) := by rw [cell_of haW]; rfl
  have a5 : W.cell? ⟨w.heap.size, 5, none⟩ = some (.bool sw) := by rw [cell_of haW]; rfl
  have HZ := hid hzW
  have HB := hid hbW
  have HW := hid hwW
  have HL := hid hlW
  have hbz : b < W.heap.size := lt_of_block hbW
  clear hW hzW hbW hwW hlW haW hc0 hcx hfx
  go_region_law (refine step_app _ rfl (.tmp 37) (.tmp 39) 102 rfl 202 _ 6 48 Tryz.underlying102 infoAcc rfl (by decide) (.slice la log.length lc) log.length (logCells log) (by simp [Act.eval]) ((row_drew HL.out).alloc _) _ 1 (Acc.mk t n k x v sw).cells (by simp [Act.eval]) (rd_new _ _ _ _ _ _) (by simp [Acc.cells, Value.oneCell']) (by omega) (by unfold maxLen; omega) ?_; intro la' lc' w1 ho hg hs; have hb1 : w1.heap[b]? = some (.cells #[.slice (some ⟨gw, 0, none⟩) ws.length wc, .slice la log.length lc] 105 (0, 0)) := (hg.block b (by simp; omega) (fun e => HR.out.ne2 e.symm)).trans (alloc_old HB.out _); have hf1 : w1.frozen? ⟨b, 1, none⟩ = false := free_of hb1 1; have hc1 : w1.cell? ⟨b, 1, none⟩ = some (.slice la log.length lc) := (by rw [cell_of hb1]; rfl); have HO := hid ho; have HG := hid hg; have HS := hid hs; have HB1 := hid hb1; clear ho hg hs hb1)
  all_goals
    go_wp2
    go_end0
    refine ⟨rfl, fun j => j = b ∨ j = gw ∨ (Value.slice la' (log.length + 1) lc').ownBlock = some j, ⟨gw, wc, la', lc', ⟨?_, ?_, ?_, HR.out.ne1, ?_, ?_⟩, fun j => by simp⟩, ?_, ?_⟩
    · rw [set_same HB1.out]; simp
    · refine ownsRow_setCell_other (row_grown (row_drew (HW.out.alloc _)) HG.out (fun j hj e => ?_)) (by simpa [Value.ownBlock] using Ne.symm HR.out.ne1) _
      simp [Value.ownBlock] at hj; subst hj; exact HR.out.ne3 e
    · rw [logCells_snoc, List.length_append]
      refine ownsRow_setCell_other HO.out (fun e => ?_) _
      rcases HS.out b e with h | h
      · exact HR.out.ne2 h
      · simp at h; omega
    · rw [List.length_append]
      intro e
      rcases HS.out b e with h | h
      · exact HR.out.ne2 h
      · simp at h; omega
    · rw [List.length_append]
      intro e
      have hz := HZ.out
      rcases HS.out gw e with h | h
      · exact HR.out.ne3 h
      · simp at h; omega
    · refine kW.trans (Keep.setCell (Keep.grown (S := F) ((Keep.refl _ _).alloc _ |>.drew) HG.out (fun j hj => .inl ((hF j).2 (.inr (.inr hj))))) (.inl ((hF b).2 (.inl rfl))) _) (fun _ _ h => h)
    · intro j hj
      have hz := HZ.out
      rcases hj with rfl | rfl | hj
      · exact .inl ((hF _).2 (.inl rfl))
      · exact .inl ((hF _).2 (.inr (.inl rfl)))
      · rcases HS.out j hj with h | h
        · exact .inl ((hF _).2 (.inr (.inr h)))
        · exact .inr (by simp at h; omega)
end Go.Proofs.YtjghenomeindcaaGreat
