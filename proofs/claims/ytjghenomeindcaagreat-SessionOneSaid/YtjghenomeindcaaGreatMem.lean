/- What the methods of words.Mem do: contracts of check, note, Load, Store, Add, CompareAndSwap, Peek, Len over a memory that is described by its words and its log. -/
import Derived.Test.YtjghenomeindcaaGreatProg
import Derived.Test.YtjghenomeindcaaGreatPlain
import Derived.Test.YtjghenomeindcaaGreatAtomic
namespace Go.Proofs.YtjghenomeindcaaGreat
open Go.RowKit Go.Lf

theorem infoAcc : (Tryz.prog.info? 202).map (fun i => (i.zero, i.size, i.bytes)) = some (some (.agg #[.int .i64 0, .int .i64 0, .int .u8 0, .int .u64 0, .int .u64 0, .bool false]), 6, 48) := by kernel_rfl

theorem cell_alloc_drewN {w : World} {b i : Nat} {v : Value} (h : w.cell? ⟨b, i, none⟩ = some v) (o : Obj) (n : Nat) : ((w.alloc o).drewN n).cell? ⟨b, i, none⟩ = some v :=
  (((Keep.refl Nil w).alloc o).drewN n).cell h (fun h => h)

/-- The memory at block b: its words' block bw, its log's slice. -/
structure MemRep (w : World) (b bw : Nat) (la : Option Addr) (lc : Nat) (ws : List Int) (log : List Acc) : Prop where
  head : w.heap[b]? = some (.cells #[.slice (some ⟨bw, 0, none⟩) ws.length ws.length, .slice la log.length lc] 161 (0, 0))
  row : w.heap[bw]? = some (.cells (u64s ws).toArray 158 (0, 0))
  lrow : w.ownsRow 0 202 6 (.slice la log.length lc) log.length (logCells log)
  ne1 : b ≠ bw
  ne2 : (Value.slice la log.length lc).ownBlock ≠ some b
  ne3 : (Value.slice la log.length lc).ownBlock ≠ some bw

/-- The memory at block b whose blocks are those of F. -/
def MemAt (w : World) (b : Nat) (F : Nat → Prop) (ws : List Int) (log : List Acc) : Prop :=
  ∃ bw la lc, MemRep w b bw la lc ws log ∧ ∀ k, F k ↔ k = b ∨ k = bw ∨ (Value.slice la log.length lc).ownBlock = some k

/-- The memory behind a call. -/
def MemTo (w : World) (b : Nat) (F : Nat → Prop) (ws : List Int) (log : List Acc) (w' : World) : Prop :=
  ∃ F', MemAt w' b F' ws log ∧ Keep F w w' ∧ Foot w F F'

theorem MemRep.cell0 {w : World} {b bw lc : Nat} {la : Option Addr} {ws : List Int} {log : List Acc} (h : MemRep w b bw la lc ws log) : w.cell? ⟨b, 0, none⟩ = some (.slice (some ⟨bw, 0, none⟩) ws.length ws.length) := by rw [cell_of h.head]; rfl
theorem MemRep.cell1 {w : World} {b bw lc : Nat} {la : Option Addr} {ws : List Int} {log : List Acc} (h : MemRep w b bw la lc ws log) : w.cell? ⟨b, 1, none⟩ = some (.slice la log.length lc) := by rw [cell_of h.head]; rfl
theorem MemRep.word {w : World} {b bw lc : Nat} {la : Option Addr} {ws : List Int} {log : List Acc} (h : MemRep w b bw la lc ws log) {i : Nat} {x : Int} (hx : ws[i]? = some x) : w.cell? ⟨bw, i, none⟩ = some (.int .u64 x) := by
  rw [cell_of h.row]; simpa using u64s_at hx
theorem MemRep.free {w : World} {b bw lc : Nat} {la : Option Addr} {ws : List Int} {log : List Acc} (h : MemRep w b bw la lc ws log) (i : Nat) : w.frozen? ⟨bw, i, none⟩ = false := free_of h.row i

/-- A word is set. -/
theorem MemRep.set {w : World} {b bw lc : Nat} {la : Option Addr} {ws : List Int} {log : List Acc} (h : MemRep w b bw la lc ws log) (i : Nat) (x : Int) :
    MemRep (w.setCell ⟨bw, i, none⟩ (.int .u64 x)) b bw la lc (ws.set i x) log := by
  refine ⟨?_, ?_, ?_, h.ne1, h.ne2, h.ne3⟩
  · rw [List.length_set]; exact set_other h.head (by simpa using h.ne1) _
  · rw [set_same h.row, ← u64s_set]; simp
  · exact ownsRow_setCell_other h.lrow (by simpa using h.ne3) _

theorem MemAt.lt {w : World} {b : Nat} {F : Nat → Prop} {ws : List Int} {log : List Acc} (h : MemAt w b F ws log) : ∀ k, F k → k < w.heap.size := by
  obtain ⟨bw, la, lc, h, hF⟩ := h
  intro k hk
  rcases (hF k).1 hk with rfl | rfl | hk
  · exact lt_of_block h.head
  · exact lt_of_block h.row
  · exact (h.lrow.lt k hk).2
theorem MemAt.keep {w w' : World} {b : Nat} {F S : Nat → Prop} {ws : List Int} {log : List Acc} (h : MemAt w b F ws log) (hk : Keep S w w') (hd : ∀ k, F k → ¬ S k) : MemAt w' b F ws log := by
  obtain ⟨bw, la, lc, h, hF⟩ := h
  exact ⟨bw, la, lc, ⟨hk.at h.head (hd b ((hF b).2 (.inl rfl))), hk.at h.row (hd bw ((hF bw).2 (.inr (.inl rfl)))), row_keep h.lrow hk (fun k e => hd k ((hF k).2 (.inr (.inr e)))), h.ne1, h.ne2, h.ne3⟩, hF⟩
theorem MemAt.has {w : World} {b : Nat} {F : Nat → Prop} {ws : List Int} {log : List Acc} (h : MemAt w b F ws log) : F b := by
  obtain ⟨bw, la, lc, h, hF⟩ := h
  exact (hF b).2 (.inl rfl)
theorem MemTo.trans {w w1 w2 : World} {b : Nat} {F F1 : Nat → Prop} {ws : List Int} {log : List Acc} (hk : Keep F w w1) (hf : Foot w F F1) (h : MemTo w1 b F1 ws log w2) : MemTo w b F ws log w2 := by
  obtain ⟨F2, h2, k2, f2⟩ := h
  refine ⟨F2, h2, hk.trans k2 (fun k hlt hF => ?_), fun k hF => ?_⟩
  · exact (hf k hF).elim id (fun h => absurd hlt (by omega))
  · rcases f2 k hF with h | h
    · exact hf k h
    · exact .inr (Nat.le_trans hk.size h)

set_option maxHeartbeats 400000 in
theorem note_any (b : Nat) (wsl : Value) (la : Option Addr) (lc : Nat) (t a k old v : Int) (sw : Bool) (n : Nat) (xs : List Value) (w : World)
    (hb : w.heap[b]? = some (.cells #[wsl, .slice la n lc] 161 (0, 0))) (hown : w.ownsRow 0 202 6 (.slice la n lc) n xs) (hne : (Value.slice la n lc).ownBlock ≠ some b) (hn : n < 1000000000000) :
    Calls Tryz.prog 66 #[.pointer (some ⟨b, 0, none⟩), .int .i64 t, .int .i64 a, .int .u8 k, .int .u64 old, .int .u64 v, .bool sw] w fun e w' => e = .returned (.tuple #[]) ∧
      ∃ la' lc', w'.heap[b]? = some (.cells #[wsl, .slice la' (n + 1) lc'] 161 (0, 0)) ∧ w'.ownsRow 0 202 6 (.slice la' (n + 1) lc') (n + 1) (xs ++ (Acc.mk t a k old v sw).cells) ∧
        RowStep w (.slice la n lc) (.slice la' (n + 1) lc') ∧ Keep (fun j => j = b ∨ (Value.slice la n lc).ownBlock = some j) w w' := by
  have hc0 : w.cell? ⟨b, 1, none⟩ = some (.slice la n lc) := by rw [cell_of hb]; rfl
  have hlt := lt_of_block hb
  have hown' := hid hown
  have hb' := hid hb
  clear hown hb
  go_enter Tryz.func66, Tryz.ntmps66
  go_wp2_with (at_builtin; refine wpList_app _ rfl _ _ 102 rfl 202 _ 6 48 Tryz.underlying102 infoAcc rfl (by decide) (.slice la n lc) n xs rfl (hown'.out.alloc _) _ 1 (Acc.mk t a k old v sw).cells rfl ?rd ?one ?byt ?len ?_)
  case rd => exact rd_new _ _ _ _ _ _
  case one => simp [Acc.cells, Value.oneCell']
  case byt => omega
  case len => unfold maxLen; omega
  intro la' lc' w1 ho hg hs
  have hb1 : w1.heap[b]? = some (.cells #[wsl, .slice la n lc] 161 (0, 0)) := (hg.block b (by simp; omega) (fun e => hne e.symm)).trans (alloc_old hb'.out _)
  have hf1 : w1.frozen? ⟨b, 1, none⟩ = false := free_of hb1 1
  have hc1 : w1.cell? ⟨b, 1, none⟩ = some (.slice la n lc) := by rw [cell_of hb1]; rfl
  have hsz : w.heap.size ≤ w1.heap.size := Nat.le_trans (by simp) hg.size
  have HG := hid hg
  have HB := hid hb1
  have HO := hid ho
  have HS := hid hs
  clear hg hb1 ho hs
  go_wp2
  go_end0
  refine ⟨rfl, la', lc', ?_, ?_, ?_, ?_⟩
  · rw [set_same HB.out]; rfl
  · refine ownsRow_setCell_other HO.out (fun e => ?_) _
    rcases HS.out b e with h | h
    · exact hne h
    · simp at h; omega
  · intro j hj
    rcases HS.out j hj with h | h
    · exact .inl h
    · exact .inr (by simp at h; omega)
  · refine Keep.setCell (Keep.grown (Keep.alloc (Keep.refl _ _) _) HG.out (fun j hj => .inl (.inr hj))) (.inl (.inl rfl)) _

set_option maxHeartbeats 400000 in
theorem check_ok (b : Nat) (t i : Int) (aw : Option Addr) (n c : Nat) (w : World) (hc : w.cell? ⟨b, 0, none⟩ = some (.slice aw n c)) (ht0 : 0 ≤ t) (ht1 : t < 64) (hi0 : 0 ≤ i) (hi1 : i < n) :
    Calls Tryz.prog 64 #[.pointer (some ⟨b, 0, none⟩), .int .i64 t, .int .i64 i] w fun e w' => e = .returned (.int .i64 0) ∧ w = w' := by
  go_enter Tryz.func64, Tryz.ntmps64
  go_wp2
  all_goals (go_ret; exact ⟨rfl, rfl⟩)

set_option maxHeartbeats 400000 in
theorem check_any (b : Nat) (t i : Int) (aw : Option Addr) (n c : Nat) (w : World) (hc : w.cell? ⟨b, 0, none⟩ = some (.slice aw n c)) :
    Calls Tryz.prog 64 #[.pointer (some ⟨b, 0, none⟩), .int .i64 t, .int .i64 i] w fun e w' => e = .returned (.int .i64 (errOf t i n)) ∧ w = w' := by
  go_enter Tryz.func64, Tryz.ntmps64
  go_wp2
  all_goals (go_ret; refine ⟨?_, rfl⟩; unfold errOf)
  · rw [if_pos (by omega)]; rfl
  · rw [if_neg (by omega), if_pos (by omega)]; rfl
  · rw [if_neg (by omega), if_neg (by omega)]; rfl
  · rw [if_neg (by omega), if_pos (by omega)]; rfl
  · rw [if_pos (by omega)]; rfl

set_option maxHeartbeats 400000 in
theorem check_nil (t i : Int) (w : World) :
    Calls Tryz.prog 64 #[.pointer none, .int .i64 t, .int .i64 i] w fun e w' => e = .returned (.int .i64 1) ∧ w = w' := by
  go_enter Tryz.func64, Tryz.ntmps64
  go_wp2
  go_ret
  exact ⟨rfl, rfl⟩
end Go.Proofs.YtjghenomeindcaaGreat
