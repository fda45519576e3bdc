
/- What the methods of words.Mem do: contracts of check, note, Load, Store, Add, CompareAndSwap, Peek, Len over a memory that is described by its words and its log. -/
import Derived.Test.YtjghenomeindcaaGreatProg
import Derived.Test.YtjghenomeindcaaGreatBase
import Derived.Test.YtjghenomeindcaaGreatAtomic
namespace Go.Proofs.YtjghenomeindcaaGreat
open Go.RowKit Go.Lf

theorem infoAcc : (Tryz.prog.info? 202).map (fun i => (i.zero, i.size, i.bytes)) = some (some (.agg #[.int .i64 0, .int .i64 0, .int .u8 0, .int .u64 0, .int .u64 0, .bool false]), 6, 48) := by kernel_rfl

theorem cell_alloc_drewN {w : World} {b i : Nat} {v : Value} (h : w.cell? ⟨b, i, none⟩ = some v) (o : Obj) (n : Nat) : ((w.alloc o).drewN n).cell? ⟨b, i, none⟩ = some v :=
  (((Keep.refl Nil w).alloc o).drewN n).cell h (fun h => h)

/-- The memory at block b: its words' block bw, its log's slice. -/
structure MemRep (w : World) (b bw : Nat) (la : Option Addr) (lc : Nat) (ws : List Int) (log : List Acc) : Prop where
  head : w.heap[b]? = some (.cells #[.slice (some ⟨bw, 0, none⟩) ws.length ws.length, .slice la log.length lc] 161 (0, 0))
  row : w.heap[bw]? = some (.cells (u64s ws).toArray 158 (0, 0))
  lrow : w.ownsRow 0 202 6 (.slice la log.length lc) log.length (logCells log)
  ne1 : b ≠ bw
  ne2 : (Value.slice la log.length lc).ownBlock ≠ some b
  ne3 : (Value.slice la log.length lc).ownBlock ≠ some bw

/-- The memory at block b whose blocks are those of F. -/
def MemAt (w : World) (b : Nat) (F : Nat → Prop) (ws : List Int) (log : List Acc) : Prop :=
  ∃ bw la lc, MemRep w b bw la lc ws log ∧ ∀ k, F k ↔ k = b ∨ k = bw ∨ (Value.slice la log.length lc).ownBlock = some k

/-- The memory behind a call. -/
def MemTo (w : World) (b : Nat) (F : Nat → Prop) (ws : List Int) (log : List Acc) (w' : World) : Prop :=
  ∃ F', MemAt w' b F' ws log ∧ Keep F w w' ∧ Foot w F F'

theorem MemRep.cell0 {w : World} {b bw lc : Nat} {la : Option Addr} {ws : List Int} {log : List Acc} (h : MemRep w b bw la lc ws log) : w.cell? ⟨b, 0, none⟩ = some (.slice (some ⟨bw, 0, none⟩) ws.length ws.length) := by rw [cell_of h.head]; rfl
theorem MemRep.cell1 {w : World} {b bw lc : Nat} {la : Option Addr} {ws : List Int} {log : List Acc} (h : MemRep w b bw la lc ws log) : w.cell? ⟨b, 1, none⟩ = some (.slice la log.length lc) := by rw [cell_of h.head]; rfl
theorem MemRep.word {w : World} {b bw lc : Nat} {la : Option Addr} {ws : List Int} {log : List Acc} (h : MemRep w b bw la lc ws log) {i : Nat} {x : Int} (hx : ws[i]? = some x) : w.cell? ⟨bw, i, none⟩ = some (.int .u64 x) := by
  rw [cell_of h.row]; simpa using u64s_at hx
theorem MemRep.free {w : World} {b bw lc : Nat} {la : Option Addr} {ws : List Int} {log : List Acc} (h : MemRep w b bw la lc ws log) (i : Nat) : w.frozen? ⟨bw, i, none⟩ = false := free_of h.row i

/-- A word is set. -/
theorem MemRep.set {w : World} {b bw lc : Nat} {la : Option Addr} {ws : List Int} {log : List Acc} (h : MemRep w b bw la lc ws log) (i : Nat) (x : Int) :
    MemRep (w.setCell ⟨bw, i, none⟩ (.int .u64 x)) b bw la lc (ws.set i x) log := by
  refine ⟨?_, ?_, ?_, h.ne1, h.ne2, h.ne3⟩
  · rw [List.length_set]; exact set_other h.head (by simpa using h.ne1) _
  · rw [set_same h.row, ← u64s_set]; simp
  · exact ownsRow_setCell_other h.lrow (by simpa using h.ne3) _

theorem MemAt.lt {w : World} {b : Nat} {F : Nat → Prop} {ws : List Int} {log : List Acc} (h : MemAt w b F ws log) : ∀ k, F k → k < w.heap.size := by
  obtain ⟨bw, la, lc, h, hF⟩ := h
  intro k hk
  rcases (hF k).1 hk with rfl | rfl | hk
  · exact lt_of_block h.head
  · exact lt_of_block h.row
  · exact (h.lrow.lt k hk).2
theorem MemAt.keep {w w' : World} {b : Nat} {F S : Nat → Prop} {ws : List Int} {log : List Acc} (h : MemAt w b F ws log) (hk : Keep S w w') (hd : ∀ k, F k → ¬ S k) : MemAt w' b F ws log := by
  obtain ⟨bw, la, lc, h, hF⟩ := h
  exact ⟨bw, la, lc, ⟨hk.at h.head (hd b ((hF b).2 (.inl rfl))), hk.at h.row (hd bw ((hF bw).2 (.inr (.inl rfl)))), row_keep h.lrow hk (fun k e => hd k ((hF k).2 (.inr (.inr e)))), h.ne1, h.ne2, h.ne3⟩, hF⟩
theorem MemAt.has {w : World} {b : Nat} {F : Nat → Prop} {ws : List Int} {log : List Acc} (h : MemAt w b F ws log) : F b := by
  obtain ⟨bw, la, lc, h, hF⟩ := h
  exact (hF b).2 (.inl rfl)
theorem MemTo.trans {w w1 w2 : World} {b : Nat} {F F1 : Nat → Prop} {ws : List Int} {log : List Acc} (hk : Keep F w w1) (hf : Foot w F F1) (h : MemTo w1 b F1 ws log w2) : MemTo w b F ws log w2 := by
  obtain ⟨F2, h2, k2, f2⟩ := h
  refine ⟨F2, h2, hk.trans k2 (fun k hlt hF => ?_), fun k hF => ?_⟩
  · exact (hf k hF).elim id (fun h => absurd hlt (by omega))
  · rcases f2 k hF with h | h
    · exact hf k h
    · exact .inr (Nat.le_trans hk.size h)

set_option maxHeartbeats 400000 in
theorem note_any (b : Nat) (wsl : Value) (la : Option Addr) (lc : Nat) (t a k old v : Int) (sw : Bool) (n : Nat) (xs : List Value) (w : World)
    (hb : w.heap[b]? = some (.cells #[wsl, .slice la n lc] 161 (0, 0))) (hown : w.ownsRow 0 202 6 (.slice la n lc) n xs) (hne : (Value.slice la n lc).ownBlock ≠ some b) (hn : n < 1000000000000) :
    Calls Tryz.prog 66 #[.pointer (some ⟨b, 0, none⟩), .int .i64 t, .int .i64 a, .int .u8 k, .int .u64 old, .int .u64 v, .bool sw] w fun e w' => e = .returned (.tuple #[]) ∧
      ∃ la' lc', w'.heap[b]? = some (.cells #[wsl, .slice la' (n + 1) lc'] 161 (0, 0)) ∧ w'.ownsRow 0 202 6 (.slice la' (n + 1) lc') (n + 1) (xs ++ (Acc.mk t a k old v sw).cells) ∧
        RowStep w (.slice la n lc) (.slice la' (n + 1) lc') ∧ Keep (fun j => j = b ∨ (Value.slice la n lc).ownBlock = some j) w w' := by
  have hc0 : w.cell? ⟨b, 1, none⟩ = some (.slice la n lc) := by rw [cell_of hb]; rfl
  have hlt := lt_of_block hb
  have hown' := hid hown
  have hb' := hid hb
  clear hown hb
  go_enter Tryz.func66, Tryz.ntmps66
  go_wp2_with (at_builtin; refine wpList_app _ rfl _ _ 102 rfl 202 _ 6 48 Tryz.underlying102 infoAcc rfl (by decide) (.slice la n lc) n xs rfl (hown'.out.alloc _) _ 1 (Acc.mk t a k old v sw).cells rfl ?rd ?one ?byt ?len ?_)
  case rd => exact rd_new _ _ _ _ _ _
  case one => simp [Acc.cells, Value.oneCell']
  case byt => omega
  case len => unfold maxLen; omega
  intro la' lc' w1 ho hg hs
  have hb1 : w1.heap[b]? = some (.cells #[wsl, .slice la n lc] 161 (0, 0)) := (hg.block b (by simp; omega) (fun e => hne e.symm)).trans (alloc_old hb'.out _)
  have hf1 : w1.frozen? ⟨b, 1, none⟩ = false := free_of hb1 1
  have hc1 : w1.cell? ⟨b, 1, none⟩ = some (.slice la n lc) := by rw [cell_of hb1]; rfl
  have hsz : w.heap.size ≤ w1.heap.size := Nat.le_trans (by simp) hg.size
  have HG := hid hg
  have HB := hid hb1
  have HO := hid ho
  have HS := hid hs
  clear hg hb1 ho hs
  go_wp2
  go_end0
  refine ⟨rfl, la', lc', ?_, ?_, ?_, ?_⟩
  · rw [set_same HB.out]; rfl
  · refine ownsRow_setCell_other HO.out (fun e => ?_) _
    rcases HS.out b e with h | h
    · exact hne h
    · simp at h; omega
  · intro j hj
    rcases HS.out j hj with h | h
    · exact .inl h
    · exact .inr (by simp at h; omega)
  · refine Keep.setCell (Keep.grown (Keep.alloc (Keep.refl _ _) _) HG.out (fun j hj => .inl (.inr hj))) (.inl (.inl rfl)) _

set_option maxHeartbeats 400000 in
theorem check_ok (b : Nat) (t i : Int) (aw : Option Addr) (n c : Nat) (w : World) (hc : w.cell? ⟨b, 0, none⟩ = some (.slice aw n c)) (ht0 : 0 ≤ t) (ht1 : t < 64) (hi0 : 0 ≤ i) (hi1 : i < n) :
    Calls Tryz.prog 64 #[.pointer (some ⟨b, 0, none⟩), .int .i64 t, .int .i64 i] w fun e w' => e = .returned (.int .i64 0) ∧ w = w' := by
  go_enter Tryz.func64, Tryz.ntmps64
  go_wp2
  all_goals (go_ret; exact ⟨rfl, rfl⟩)

set_option maxHeartbeats 400000 in
theorem check_any (b : Nat) (t i : Int) (aw : Option Addr) (n c : Nat) (w : World) (hc : w.cell? ⟨b, 0, none⟩ = some (.slice aw n c)) :
    Calls Tryz.prog 64 #[.pointer (some ⟨b, 0, none⟩), .int .i64 t, .int .i64 i] w fun e w' => e = .returned (.int .i64 (errOf t i n)) ∧ w = w' := by
  go_enter Tryz.func64, Tryz.ntmps64
  go_wp2
  all_goals (go_ret; refine ⟨?_, rfl⟩; unfold errOf)
  · rw [if_pos (by omega)]; rfl
  · rw [if_neg (by omega), if_pos (by omega)]; rfl
  · rw [if_neg (by omega), if_neg (by omega)]; rfl
  · rw [if_neg (by omega), if_pos (by omega)]; rfl
  · rw [if_pos (by omega)]; rfl

set_option maxHeartbeats 400000 in
theorem check_nil (t i : Int) (w : World) :
    Calls Tryz.prog 64 #[.pointer none, .int .i64 t, .int .i64 i] w fun e w' => e = .returned (.int .i64 1) ∧ w = w' := by
  go_enter Tryz.func64, Tryz.ntmps64
  go_wp2
  go_ret
  exact ⟨rfl, rfl⟩
end Go.Proofs.YtjghenomeindcaaGreat

/-! What the accesses of words.Mem do: Load, Store, Add, CompareAndSwap, Peek, Len over a memory described by its words and its log. -/
namespace Go.Proofs.YtjghenomeindcaaGreat
open Go.RowKit Go.Lf

/-- note, over a memory that is described. -/
theorem note_to {b bw lc : Nat} {la : Option Addr} {ws : List Int} {log : List Acc} {F : Nat → Prop} (t a k old v : Int) (sw : Bool) (w w1 : World)
    (h : MemRep w1 b bw la lc ws log) (hF : ∀ k, F k ↔ k = b ∨ k = bw ∨ (Value.slice la log.length lc).ownBlock = some k) (hk : Keep F w w1) (hz : w.heap.size ≤ w1.heap.size) (hn : log.length < 1000000000000) :
    Calls Tryz.prog 66 #[.pointer (some ⟨b, 0, none⟩), .int .i64 t, .int .i64 a, .int .u8 k, .int .u64 old, .int .u64 v, .bool sw] w1 fun e w' => e = .returned (.tuple #[]) ∧ MemTo w b F ws (log ++ [⟨t, a, k, old, v, sw⟩]) w' := by
  refine (note_any b _ la lc t a k old v sw log.length (logCells log) w1 h.head h.lrow h.ne2 hn).mono ?_
  rintro e w' ⟨he, la', lc', h1, h2, h3, h4⟩
  refine ⟨he, fun k => k = b ∨ k = bw ∨ (Value.slice la' (log.length + 1) lc').ownBlock = some k, ⟨bw, la', lc', ⟨?_, ?_, ?_, h.ne1, ?_, ?_⟩, fun k => by simp⟩, ?_, ?_⟩
  · simpa using h1
  · refine h4.at h.row (fun hx => ?_)
    rcases hx with hx | hx
    · exact h.ne1 hx.symm
    · exact h.ne3 hx
  · rw [logCells_snoc]; simpa using h2
  · intro e
    rcases h3 b (by simpa using e) with h' | h'
    · exact h.ne2 h'
    · exact absurd (lt_of_block h.head) (by omega)
  · intro e
    rcases h3 bw (by simpa using e) with h' | h'
    · exact h.ne3 h'
    · exact absurd (lt_of_block h.row) (by omega)
  · refine hk.trans h4 (fun k _ hx => (hF k).2 ?_)
    rcases hx with hx | hx
    · exact .inl hx
    · exact .inr (.inr hx)
  · intro k hx
    rcases hx with hx | hx | hx
    · exact .inl ((hF k).2 (.inl hx))
    · exact .inl ((hF k).2 (.inr (.inl hx)))
    · rcases h3 k hx with h' | h'
      · exact .inl ((hF k).2 (.inr (.inr h')))
      · exact .inr (by omega)

/-! Each access: at a thread and an address that exist, and otherwise. -/
section
variable {b : Nat} {F : Nat → Prop} {ws : List Int} {log : List Acc} {w : World}

theorem MemAt.rep (h : MemAt w b F ws log) : ∃ bw la lc, MemRep w b bw la lc ws log ∧ ∀ k, F k ↔ k = b ∨ k = bw ∨ (Value.slice la log.length lc).ownBlock = some k := h

set_option maxHeartbeats 400000 in
theorem load_ok (h : MemAt w b F ws log) (t i x : Int) (ht0 : 0 ≤ t) (ht1 : t < 64) (hi0 : 0 ≤ i) (hx : ws[i.toNat]? = some x) (hn : log.length < 1000000000000) :
    Calls Tryz.prog 128 #[.pointer (some ⟨b, 0, none⟩), .int .i64 t, .int .i64 i] w fun e w' => e = .returned (.tuple #[.int .u64 x, .int .i64 0]) ∧ MemTo w b F ws (log ++ [⟨t, i, 1, x, x, false⟩]) w' := by
  obtain ⟨bw, la, lc, hr, hF⟩ := h.rep
  obtain ⟨n, rfl⟩ := Int.eq_ofNat_of_zero_le hi0
  have hlt : n < ws.length := lt_of_at (by simpa using hx)
  have hc0 := hr.cell0
  have hcx := hr.word (i := n) (x := x) (by simpa using hx)
  have HX := hid hx
  have HR := hid hr
  clear hx hr
  go_enter Tryz.func128, Tryz.ntmps128
  go_wp2_with (first | (go_at_call 64; refine (check_ok _ _ _ _ _ _ _ hc0 ht0 ht1 (by omega) (by omega)).mono ?_; rintro e w' ⟨rfl, rfl⟩) | (go_at_call 115; refine (aload_any _ _ _ _ hcx).mono ?_; rintro e w' ⟨rfl, rfl⟩) | (go_at_call 66; refine (note_to _ _ _ _ _ _ w _ HR.out hF (Keep.refl _ _) (Nat.le_refl _) hn).mono ?_; rintro e w' ⟨rfl, hto⟩))
  go_ret2
  exact ⟨rfl, hto⟩

set_option maxHeartbeats 400000 in
theorem load_err (h : MemAt w b F ws log) (t i : Int) (he : errOf t i ws.length ≠ 0) :
    Calls Tryz.prog 128 #[.pointer (some ⟨b, 0, none⟩), .int .i64 t, .int .i64 i] w fun e w' => e = .returned (.tuple #[.int .u64 0, .int .i64 (errOf t i ws.length)]) ∧ w = w' := by
  obtain ⟨bw, la, lc, hr, hF⟩ := h.rep
  have hc0 := hr.cell0
  clear hr
  have hne : (errOf t i ws.length != 0) = true := by simpa using he
  go_enter Tryz.func128, Tryz.ntmps128
  go_wp2_with (go_at_call 64; refine (check_any _ _ _ _ _ _ _ hc0).mono ?_; rintro e w' ⟨rfl, rfl⟩)
  go_ret2
  exact ⟨rfl, rfl⟩

set_option maxHeartbeats 400000 in
theorem store_ok (h : MemAt w b F ws log) (t i x v : Int) (ht0 : 0 ≤ t) (ht1 : t < 64) (hi0 : 0 ≤ i) (hx : ws[i.toNat]? = some x) (hn : log.length < 1000000000000) :
    Calls Tryz.prog 20 #[.pointer (some ⟨b, 0, none⟩), .int .i64 t, .int .i64 i, .int .u64 v] w fun e w' => e = .returned (.int .i64 0) ∧ MemTo w b F (ws.set i.toNat v) (log ++ [⟨t, i, 2, x, v, false⟩]) w' := by
  obtain ⟨bw, la, lc, hr, hF⟩ := h.rep
  obtain ⟨n, rfl⟩ := Int.eq_ofNat_of_zero_le hi0
  have hlt : n < ws.length := lt_of_at (by simpa using hx)
  have hc0 := hr.cell0
  have hcx := hr.word (i := n) (x := x) (by simpa using hx)
  have hfx := hr.free n
  have HS := hid (hr.set n v)
  have hkk : Keep F w (w.setCell ⟨bw, n, none⟩ (.int .u64 v)) := Keep.setCell (Keep.refl _ _) (.inl ((hF bw).2 (.inr (.inl rfl)))) _
  have hz : w.heap.size ≤ (w.setCell ⟨bw, n, none⟩ (.int .u64 v)).heap.size := hkk.size
  clear hx hr
  go_enter Tryz.func20, Tryz.ntmps20
  go_wp2_with (first | (go_at_call 64; refine (check_ok _ _ _ _ _ _ _ hc0 ht0 ht1 (by omega) (by omega)).mono ?_; rintro e w' ⟨rfl, rfl⟩) | (go_at_call 65; refine (aswap_any _ _ _ _ _ hcx hfx).mono ?_; rintro e w' ⟨rfl, rfl⟩) | (go_at_call 66; refine (note_to _ _ _ _ _ _ w _ HS.out hF hkk hz hn).mono ?_; rintro e w' ⟨rfl, hto⟩))
  go_ret
  exact ⟨rfl, by simpa using hto⟩

set_option maxHeartbeats 400000 in
theorem store_err (h : MemAt w b F ws log) (t i v : Int) (he : errOf t i ws.length ≠ 0) :
    Calls Tryz.prog 20 #[.pointer (some ⟨b, 0, none⟩), .int .i64 t, .int .i64 i, .int .u64 v] w fun e w' => e = .returned (.int .i64 (errOf t i ws.length)) ∧ w = w' := by
  obtain ⟨bw, la, lc, hr, hF⟩ := h.rep
  have hc0 := hr.cell0
  clear hr
  have hne : (errOf t i ws.length != 0) = true := by simpa using he
  go_enter Tryz.func20, Tryz.ntmps20
  go_wp2_with (go_at_call 64; refine (check_any _ _ _ _ _ _ _ hc0).mono ?_; rintro e w' ⟨rfl, rfl⟩)
  go_ret
  exact ⟨rfl, rfl⟩

set_option maxHeartbeats 400000 in
theorem cas_yes (h : MemAt w b F ws log) (t i x v : Int) (ht0 : 0 ≤ t) (ht1 : t < 64) (hi0 : 0 ≤ i) (hx : ws[i.toNat]? = some x) (hn : log.length < 1000000000000) :
    Calls Tryz.prog 59 #[.pointer (some ⟨b, 0, none⟩), .int .i64 t, .int .i64 i, .int .u64 x, .int .u64 v] w fun e w' => e = .returned (.tuple #[.bool true, .int .i64 0]) ∧
      MemTo w b F (ws.set i.toNat v) (log ++ [⟨t, i, 4, x, v, true⟩]) w' := by
  obtain ⟨bw, la, lc, hr, hF⟩ := h.rep
  obtain ⟨n, rfl⟩ := Int.eq_ofNat_of_zero_le hi0
  have hlt : n < ws.length := lt_of_at (by simpa using hx)
  have hc0 := hr.cell0
  have hcx := hr.word (i := n) (x := x) (by simpa using hx)
  have hfx := hr.free n
  have hr2 := hr.set n v
  have hc2 := hr2.cell0
  have hv2 := hr2.word (i := n) (x := v) (by simp [hlt])
  rw [List.length_set] at hc2
  have HS := hid hr2
  have hkk : Keep F w (w.setCell ⟨bw, n, none⟩ (.int .u64 v)) := Keep.setCell (Keep.refl _ _) (.inl ((hF bw).2 (.inr (.inl rfl)))) _
  have hz : w.heap.size ≤ (w.setCell ⟨bw, n, none⟩ (.int .u64 v)).heap.size := hkk.size
  clear hx hr hr2
  go_enter Tryz.func59, Tryz.ntmps59
  go_wp2_with (first | (go_at_call 64; refine (check_ok _ _ _ _ _ _ _ hc0 ht0 ht1 (by omega) (by omega)).mono ?_; rintro e w' ⟨rfl, rfl⟩) | (go_at_call 115; with_reducible refine (aload_any _ _ _ _ hcx).mono ?_; rintro e w' ⟨rfl, rfl⟩) | (go_at_call 115; refine (aload_any _ _ _ _ hv2).mono ?_; rintro e w' ⟨rfl, rfl⟩) | (go_at_call 116; refine (acas_yes _ _ _ _ _ hcx hfx).mono ?_; rintro e w' ⟨rfl, rfl⟩) | (go_at_call 66; refine (note_to _ _ _ _ _ _ w _ HS.out hF hkk hz hn).mono ?_; rintro e w' ⟨rfl, hto⟩))
  go_ret2
  exact ⟨rfl, by simpa using hto⟩

set_option maxHeartbeats 400000 in
theorem cas_no (h : MemAt w b F ws log) (t i x o v : Int) (ht0 : 0 ≤ t) (ht1 : t < 64) (hi0 : 0 ≤ i) (hx : ws[i.toNat]? = some x) (hne : x ≠ o) (hn : log.length < 1000000000000) :
    Calls Tryz.prog 59 #[.pointer (some ⟨b, 0, none⟩), .int .i64 t, .int .i64 i, .int .u64 o, .int .u64 v] w fun e w' => e = .returned (.tuple #[.bool false, .int .i64 0]) ∧
      MemTo w b F ws (log ++ [⟨t, i, 4, x, x, false⟩]) w' := by
  obtain ⟨bw, la, lc, hr, hF⟩ := h.rep
  obtain ⟨n, rfl⟩ := Int.eq_ofNat_of_zero_le hi0
  have hlt : n < ws.length := lt_of_at (by simpa using hx)
  have hc0 := hr.cell0
  have hcx := hr.word (i := n) (x := x) (by simpa using hx)
  have hfx := hr.free n
  have HR := hid hr
  have hne' : (x == o) = false := by simpa using hne
  have HN := hid hne'
  clear hx hr hne hne'
  go_enter Tryz.func59, Tryz.ntmps59
  go_wp2_with (first | (go_at_call 64; refine (check_ok _ _ _ _ _ _ _ hc0 ht0 ht1 (by omega) (by omega)).mono ?_; rintro e w' ⟨rfl, rfl⟩) | (go_at_call 115; refine (aload_any _ _ _ _ hcx).mono ?_; rintro e w' ⟨rfl, rfl⟩) | (go_at_call 116; refine (acas_no _ _ _ _ _ _ hcx hfx HN.out).mono ?_; rintro e w' ⟨rfl, rfl⟩) | (go_at_call 66; refine (note_to _ _ _ _ _ _ w _ HR.out hF (Keep.refl _ _) (Nat.le_refl _) hn).mono ?_; rintro e w' ⟨rfl, hto⟩))
  go_ret2
  exact ⟨rfl, hto⟩

set_option maxHeartbeats 400000 in
theorem cas_err (h : MemAt w b F ws log) (t i o v : Int) (he : errOf t i ws.length ≠ 0) :
    Calls Tryz.prog 59 #[.pointer (some ⟨b, 0, none⟩), .int .i64 t, .int .i64 i, .int .u64 o, .int .u64 v] w fun e w' => e = .returned (.tuple #[.bool false, .int .i64 (errOf t i ws.length)]) ∧ w = w' := by
  obtain ⟨bw, la, lc, hr, hF⟩ := h.rep
  have hc0 := hr.cell0
  clear hr
  have hne : (errOf t i ws.length != 0) = true := by simpa using he
  go_enter Tryz.func59, Tryz.ntmps59
  go_wp2_with (go_at_call 64; refine (check_any _ _ _ _ _ _ _ hc0).mono ?_; rintro e w' ⟨rfl, rfl⟩)
  go_ret2
  exact ⟨rfl, rfl⟩

set_option maxHeartbeats 400000 in
theorem peek_ok (h : MemAt w b F ws log) (i x : Int) (hi0 : 0 ≤ i) (hx : ws[i.toNat]? = some x) :
    Calls Tryz.prog 61 #[.pointer (some ⟨b, 0, none⟩), .int .i64 i] w fun e w' => e = .returned (.tuple #[.int .u64 x, .bool true]) ∧ w = w' := by
  obtain ⟨bw, la, lc, hr, hF⟩ := h.rep
  obtain ⟨n, rfl⟩ := Int.eq_ofNat_of_zero_le hi0
  have hlt : n < ws.length := lt_of_at (by simpa using hx)
  have hc0 := hr.cell0
  have hcx := hr.word (i := n) (x := x) (by simpa using hx)
  clear hx hr
  go_enter Tryz.func61, Tryz.ntmps61
  go_wp2_with (first | (go_at_call 64; refine (check_ok _ _ _ _ _ _ _ hc0 (by omega) (by omega) (by omega) (by omega)).mono ?_; rintro e w' ⟨rfl, rfl⟩) | (go_at_call 115; refine (aload_any _ _ _ _ hcx).mono ?_; rintro e w' ⟨rfl, rfl⟩))
  go_ret2
  exact ⟨rfl, rfl⟩

set_option maxHeartbeats 400000 in
theorem peek_no (h : MemAt w b F ws log) (i : Int) (hi : i < 0 ∨ (ws.length : Int) ≤ i) :
    Calls Tryz.prog 61 #[.pointer (some ⟨b, 0, none⟩), .int .i64 i] w fun e w' => e = .returned (.tuple #[.int .u64 0, .bool false]) ∧ w = w' := by
  obtain ⟨bw, la, lc, hr, hF⟩ := h.rep
  have hc0 := hr.cell0
  clear hr
  have hne : (errOf 0 i ws.length != 0) = true := by
    have : ¬ errOf 0 i ws.length = 0 := fun e => by have := errOf_zero.1 e; omega
    simpa using this
  go_enter Tryz.func61, Tryz.ntmps61
  go_wp2_with (go_at_call 64; refine (check_any _ _ _ _ _ _ _ hc0).mono ?_; rintro e w' ⟨rfl, rfl⟩)
  go_ret2
  exact ⟨rfl, rfl⟩

set_option maxHeartbeats 400000 in
theorem len_ok (h : MemAt w b F ws log) :
    Calls Tryz.prog 99 #[.pointer (some ⟨b, 0, none⟩)] w fun e w' => e = .returned (.int .i64 log.length) ∧ w = w' := by
  obtain ⟨bw, la, lc, hr, hF⟩ := h.rep
  have hc1 := hr.cell1
  clear hr
  go_enter Tryz.func99, Tryz.ntmps99
  go_wp2
  go_ret
  exact ⟨rfl, rfl⟩
end
end Go.Proofs.YtjghenomeindcaaGreat

/-! words.New, Words and Log: contracts. -/
namespace Go.Proofs.YtjghenomeindcaaGreat
open Go.RowKit Go.Lf

theorem infoU64 : (Tryz.prog.info? 54).map (fun i => (i.zero, i.size, i.bytes)) = some (some (.int .u64 0), 1, 8) := by kernel_rfl
theorem infoAtomic : (Tryz.prog.info? 158).map (fun i => (i.zero, i.size, i.bytes)) = some (some (.agg #[.int .u64 0]), 1, 8) := by kernel_rfl

/-- A new object with the number E: nothing that was there has turned. -/
def MNewTo (w : World) (ws : List Int) (e : Ending) (w' : World) : Prop :=
  ∃ b F, e = .returned (.tuple #[.pointer (some ⟨b, 0, none⟩), .int .i64 0]) ∧ MemAt w' b F ws [] ∧ Keep Nil w w' ∧ Foot w Nil F

theorem ret_num {k : IntKind} {a b : Int} (h : a = b) : Ending.returned (.int k a) = .returned (.int k b) := by rw [h]

set_option maxHeartbeats 400000 in
theorem size_any (n : Int) (w : World) :
    Calls Tryz.prog 76 #[.int .i64 n] w fun e w' => e = .returned (.int .i64 (szErr n)) ∧ w = w' := by
  go_enter Tryz.func76, Tryz.ntmps76
  go_wp2
  all_goals go_ret
  · exact ⟨ret_num (szErr_zero (by simp_all)).symm, rfl⟩
  · exact ⟨ret_num (szErr_big (by assumption)).symm, rfl⟩
  · have hne : ¬ n = 0 := by simp_all
    by_cases hp : 0 < n
    · exact ⟨ret_num (szErr_ok hp (by assumption)).symm, rfl⟩
    · exact ⟨ret_num (by unfold szErr; rw [if_neg hne, if_neg (by omega)]), rfl⟩

set_option maxHeartbeats 400000 in
theorem new_err (a : Option Addr) (n c : Nat) (w : World) (hn : n = 0 ∨ 65536 < n) (hm : n ≤ maxLen) :
    Calls Tryz.prog 29 #[.slice a n c] w fun e w' => e = .returned (.tuple #[.pointer none, .int .i64 (szErr n)]) ∧ w = w' := by
  unfold maxLen at hm
  have hne : (szErr n != 0) = true := by
    rcases hn with rfl | hn
    · rfl
    · rw [szErr_big (by omega)]; rfl
  clear hn
  go_enter Tryz.func29, Tryz.ntmps29
  go_wp2_with (go_at_call 76; refine (size_any _ _).mono ?_; rintro e w' ⟨rfl, rfl⟩)
  go_ret2
  exact ⟨rfl, rfl⟩

set_option maxHeartbeats 1000000 in
theorem new_ok (v : Value) (ws : List Int) (w : World) (hrd : Rd w 1 v ws.length (u64s ws)) (h0 : 0 < ws.length) (h1 : ws.length ≤ 65536) :
    Calls Tryz.prog 29 #[v] w (MNewTo w ws) := by
  obtain ⟨b, off, c, rfl, hc⟩ := Rd.cell hrd h0
  have hs : Calls Tryz.prog 76 #[.int .i64 (ws.length : Int)] w fun e w' => e = .returned (.int .i64 0) ∧ w = w' := by
    have h1 : szErr (ws.length : Int) = 0 := szErr_ok (by omega) (by omega)
    rw [← h1]; exact size_any _ _
  have HS := hid hs
  have HC := hid hc
  clear hs hc
  go_enter Tryz.func29, Tryz.ntmps29
  go_wp2_with (first | (go_at_call 76; refine HS.out.mono ?_; rintro e w' ⟨rfl, rfl⟩) | (at_make; refine wpList_mk _ rfl _ _ 159 rfl 158 _ 1 8 Tryz.underlying159 infoAtomic _ _ (ws.length : Int) rfl rfl ?p0 ?p1 ?p2 ?_))
  case p0 => omega
  case p1 => omega
  case p2 => omega
  intro w1 hh hk hz
  have HH := hid hh
  have HK := hid hk
  have HZ := hid hz
  clear hh hk hz
  have hrow : w1.heap[w.heap.size]? = some (.cells (u64s (filled ws 0)).toArray 158 (0, 0)) := by
    rw [HH.out, made_one, filled_zero]; simp [u64s]
  have HROW := hid hrow
  clear hrow
  go_wp2
  go_loopw [21] (fun i wr => ∃ k : Nat, k ≤ ws.length ∧ i = .int .i64 k ∧ wr.heap[w.heap.size]? = some (.cells (u64s (filled ws k)).toArray 158 (0, 0)) ∧
      wr.heap[w1.heap.size]? = some (.cells #[.slice (some ⟨w.heap.size, 0, none⟩) ws.length ws.length, .slice none 0 0] 161 (0, 0)) ∧ Keep Nil w wr) (fun i _ => ws.length - (intOf i).toNat)
  case atStart => exact ⟨0, Nat.zero_le _, rfl, alloc_old HROW.out _, heap_alloc_new _ _, HK.out.alloc _⟩
  case round =>
    obtain ⟨k, hk, rfl, hr, hm, hkk⟩ := hrel
    have hcm : wr.cell? ⟨w1.heap.size, 0, none⟩ = some (.slice (some ⟨w.heap.size, 0, none⟩) ws.length ws.length) := by rw [cell_of hm]; rfl
    have HR := hid hr
    have HM := hid hm
    have HKK := hid hkk
    clear hr hm hkk
    by_cases hlt : k < ws.length
    · obtain ⟨x, hx⟩ : ∃ x, ws[k]? = some x := ⟨_, List.getElem?_eq_getElem hlt⟩
      have hcx : wr.cell? ⟨b, off + k, none⟩ = some (.int .u64 x) := HKK.out.cell (HC.out k _ (u64s_at hx)) (fun h => h)
      have hcz : wr.cell? ⟨w.heap.size, k, none⟩ = some (.int .u64 0) := by rw [cell_of HR.out]; simpa using u64s_at (filled_at ws k hlt)
      have hfz : wr.frozen? ⟨w.heap.size, k, none⟩ = false := free_of HR.out k
      have HX := hid hx
      clear hx
      go_wp2_with (go_at_call 77; refine (astore_any _ _ _ _ _ hcz hfz).mono ?_; rintro e w' ⟨rfl, rfl⟩)
      go_roundw
      case rel =>
        refine ⟨k + 1, by omega, by go_num, ?_, ?_, ?_⟩
        · rw [set_same HR.out, ← filled_set ws k x HX.out, ← u64s_set]; simp
        · exact set_other HM.out (by simp; have := HZ.out; omega) _
        · exact Keep.setCell HKK.out (.inr (Nat.le_refl _)) _
      case measure => simp [intOf]; omega
    · obtain rfl : k = ws.length := by omega
      go_wp2
      go_ret2
      rw [filled_all] at HR
      refine ⟨w1.heap.size, fun j => j = w1.heap.size ∨ j = w.heap.size, rfl, ⟨w.heap.size, none, 0, ⟨HM.out, HR.out, World.ownsRow_nil _ _ _ _, by have := HZ.out; omega, by simp [Value.ownBlock], by simp [Value.ownBlock]⟩, fun j => by simp [Value.ownBlock]⟩, HKK.out, fun j hj => .inr ?_⟩
      have := HZ.out
      rcases hj with rfl | rfl <;> omega
end Go.Proofs.YtjghenomeindcaaGreat

/-! words.Mem: Words and Log: contracts. -/
namespace Go.Proofs.YtjghenomeindcaaGreat
open Go.RowKit Go.Lf

/-- A new row is returned: n elements of type T, the cells cs. -/
def RowTo (w : World) (T : TypeId) (n : Nat) (cs : List Value) (e : Ending) (w' : World) : Prop :=
  ∃ g, e = .returned (.slice (some ⟨g, 0, none⟩) n n) ∧ w'.heap[g]? = some (.cells cs.toArray T (0, 0)) ∧ w.heap.size ≤ g ∧ Keep Nil w w'

set_option maxHeartbeats 400000 in
theorem words_nil (w : World) : Calls Tryz.prog 106 #[.pointer none] w fun e w' => e = .returned (.slice none 0 0) ∧ w = w' := by
  go_enter Tryz.func106, Tryz.ntmps106
  go_wp2
  go_ret
  exact ⟨rfl, rfl⟩

section
variable {b : Nat} {F : Nat → Prop} {ws : List Int} {log : List Acc} {w : World}

set_option maxHeartbeats 1000000 in
theorem words_ok (h : MemAt w b F ws log) (hn : ws.length ≤ 1000000000) :
    Calls Tryz.prog 106 #[.pointer (some ⟨b, 0, none⟩)] w (RowTo w 54 ws.length (u64s ws)) := by
  obtain ⟨bw, la, lc, hr, hF⟩ := h.rep
  have hc0 := hr.cell0
  have HR := hid hr
  clear hr
  go_enter Tryz.func106, Tryz.ntmps106
  go_wp2_with (at_make; refine wpList_mk _ rfl _ _ 37 rfl 54 _ 1 8 Tryz.underlying37 infoU64 _ _ (ws.length : Int) rfl rfl ?p0 ?p1 ?p2 ?_)
  case p0 => omega
  case p1 => omega
  case p2 => omega
  intro w1 hh hk hz
  have hrow : w1.heap[w.heap.size]? = some (.cells (u64s (filled ws 0)).toArray 54 (0, 0)) := by
    rw [hh, filled_zero]; simp [u64s, made_one]
  have hc01 : w1.cell? ⟨b, 0, none⟩ = some (.slice (some ⟨bw, 0, none⟩) ws.length ws.length) := hk.cell hc0 (fun h => h)
  have HROW := hid hrow
  have HK := hid hk
  have HZ := hid hz
  clear hh hk hz hrow hc0
  go_wp2
  go_loopw [18] (fun i wr => ∃ k : Nat, k ≤ ws.length ∧ i = .int .i64 k ∧ wr.heap[w.heap.size]? = some (.cells (u64s (filled ws k)).toArray 54 (0, 0)) ∧ Keep Nil w wr) (fun i _ => ws.length - (intOf i).toNat)
  case atStart => exact ⟨0, Nat.zero_le _, rfl, HROW.out, HK.out⟩
  case round =>
    obtain ⟨k, hk, rfl, hr, hkk⟩ := hrel
    have hcm : wr.cell? ⟨b, 0, none⟩ = some (.slice (some ⟨bw, 0, none⟩) ws.length ws.length) := hkk.cell HR.out.cell0 (fun h => h)
    have HQ := hid hr
    have HKK := hid hkk
    clear hr hkk hc01
    by_cases hlt : k < ws.length
    · obtain ⟨x, hx⟩ : ∃ x, ws[k]? = some x := ⟨_, List.getElem?_eq_getElem hlt⟩
      have hcx : wr.cell? ⟨bw, k, none⟩ = some (.int .u64 x) := HKK.out.cell (HR.out.word hx) (fun h => h)
      have hcz : wr.cell? ⟨w.heap.size, k, none⟩ = some (.int .u64 0) := by rw [cell_of HQ.out]; simpa using u64s_at (filled_at ws k hlt)
      have hfz : wr.frozen? ⟨w.heap.size, k, none⟩ = false := free_of HQ.out k
      have HX := hid hx
      clear hx
      go_wp2_with (go_at_call 115; refine (aload_any _ _ _ _ hcx).mono ?_; rintro e w' ⟨rfl, rfl⟩)
      go_roundw
      case rel =>
        refine ⟨k + 1, by omega, by go_num, ?_, ?_⟩
        · rw [set_same HQ.out, ← filled_set ws k x HX.out, ← u64s_set]; simp
        · exact Keep.setCell HKK.out (.inr (Nat.le_refl _)) _
      case measure => simp [intOf]; omega
    · obtain rfl : k = ws.length := by omega
      go_wp2
      go_ret
      rw [filled_all] at HQ
      exact ⟨w.heap.size, rfl, HQ.out, Nat.le_refl _, HKK.out⟩

set_option maxHeartbeats 400000 in
theorem log_none (h : MemAt w b F ws log) (i : Int) (hi : i < 0 ∨ (log.length : Int) ≤ i) :
    Calls Tryz.prog 48 #[.pointer (some ⟨b, 0, none⟩), .int .i64 i] w fun e w' => e = .returned (.slice none 0 0) ∧ w = w' := by
  rcases Int.lt_or_le i 0 with hi0 | hi0
  · clear hi
    go_enter Tryz.func48, Tryz.ntmps48
    go_wp2_with (go_at_call 99; refine (len_ok h).mono ?_; rintro e w' ⟨rfl, rfl⟩)
    go_ret
    exact ⟨rfl, rfl⟩
  · have hi1 : (log.length : Int) ≤ i := by omega
    have hi2 : ¬ i < 0 := by omega
    clear hi
    go_enter Tryz.func48, Tryz.ntmps48
    go_wp2_with (go_at_call 99; refine (len_ok h).mono ?_; rintro e w' ⟨rfl, rfl⟩)
    go_ret
    exact ⟨rfl, rfl⟩

set_option maxHeartbeats 400000 in
theorem log_ok (h : MemAt w b F ws log) (i : Int) (hi0 : 0 ≤ i) (hi1 : i < (log.length : Int)) (hn : log.length < 1000000000000) :
    Calls Tryz.prog 48 #[.pointer (some ⟨b, 0, none⟩), .int .i64 i] w (RowTo w 202 (log.length - i.toNat) (logCells (log.drop i.toNat))) := by
  obtain ⟨k, rfl⟩ := Int.eq_ofNat_of_zero_le hi0
  rw [Int.toNat_natCast]
  have h' := h
  obtain ⟨bw, la, lc, hr, hF⟩ := h'.rep
  obtain ⟨g, rfl, hgc⟩ : ∃ g, la = some ⟨g, 0, none⟩ ∧ ∀ j u, (logCells log)[j]? = some u → w.cell? ⟨g, j, none⟩ = some u := by
    rcases hr.lrow.2 with ⟨_, h0⟩ | ⟨g, cap, cur, hv, _⟩
    · omega
    · simp only [Value.slice.injEq] at hv
      obtain ⟨rfl, -, rfl⟩ := hv
      refine ⟨g, rfl, fun j u hu => ?_⟩
      rw [← hu]
      exact hr.lrow.cellAt j (by have := lt_of_at hu; rw [length_logCells] at this; exact this)
  have hcap : log.length ≤ lc := by
    rcases hr.lrow.2 with ⟨hv, _⟩ | ⟨g', cap, cur, hv, _, _, hle, _⟩
    · simp at hv
    · simp only [Value.slice.injEq] at hv; omega
  have hc1 := hr.cell1
  have HG := hid hgc
  clear hr hgc
  go_enter Tryz.func48, Tryz.ntmps48
  go_wp2_with (first | (go_at_call 99; refine (len_ok h).mono ?_; rintro e w' ⟨rfl, rfl⟩) | (at_make; refine wpList_mk _ rfl _ _ 102 rfl 202 _ 6 48 Tryz.underlying102 infoAcc _ _ ((log.length : Int) - k) rfl rfl ?p0 ?p1 ?p2 ?_))
  case p0 => omega
  case p1 => omega
  case p2 => omega
  intro w1 hh hk hz
  have hc11 := hk.cell hc1 (fun h => h)
  have HH := hid hh
  have HK := hid hk
  have HZ := hid hz
  clear hh hk hz hc1
  go_wp2_with (with_reducible refine wpList_copyAll _ rfl (.tmp 22) (.tmp 28) 102 102 rfl 202 6 Tryz.underlying102 ?q1 w.heap.size (log.length - k) (log.length - k) (.slice (some ⟨g, k * 6, none⟩) (log.length - k) (lc - k)) ?q2 ?q3 _ _ HH.out ?q4 (logCells (log.drop k)) ?q5 ?q6 ?q7 ?_)
  case q1 => kernel_rfl
  case q2 => rfl
  case q3 => rfl
  case q4 => rw [size_madeCells]
  case q5 => exact ⟨_, _, rfl, by rw [length_logCells, List.length_drop], .inr <| .inl ⟨_, _, rfl, fun j u hu => HK.out.cell (HG.out _ _ (logCells_drop hu)) (fun h => h)⟩⟩
  case q6 => omega
  case q7 => exact logCells_one _
  intro w2 h2 k2
  have H2 := hid h2
  have K2 := hid k2
  clear h2 k2
  go_wp2
  go_ret
  exact ⟨w.heap.size, rfl, H2.out, Nat.le_refl _, HK.out.trans K2.out (fun j hj e => by omega)⟩
end
end Go.Proofs.YtjghenomeindcaaGreat

/-! Rows of numbers and Booleans: zero values, make. -/
namespace Go.Proofs.YtjghenomeindcaaGreat
open Go.RowKit Go.Lf
theorem infoBool : (Tryz.prog.info? 4).map (fun i => (i.zero, i.size, i.bytes)) = some (some (.bool false), 1, 1) := by kernel_rfl
theorem infoInt : (Tryz.prog.info? 3).map (fun i => (i.zero, i.size, i.bytes)) = some (some (.int .i64 0), 1, 8) := by kernel_rfl

theorem make_u64 (n : Nat) (hn : n ≤ 1000000) (w : World) : (Instr.makeSlice 37 (.int .i64 n) (.int .i64 n)).run Tryz.prog w = .ok (.slice (some ⟨w.heap.size, 0, none⟩) n n) (w.alloc (.cells (List.replicate n (Value.int .u64 0)).toArray 54)) := by
  obtain ⟨i, hi, hz, hsize, hby⟩ := info_parts infoU64
  have := run_make (P := Tryz.prog) w 37 54 i (.int .u64 0) Tryz.underlying37 hi hz .i64 .i64 n n (by omega) (Int.le_refl _) (by rw [hby]; omega) (by omega)
  rw [this, hsize, ← made_one]
  simp [Value.cells]
theorem make_bool (n : Nat) (hn : n ≤ 1000000) (w : World) : (Instr.makeSlice 181 (.int .i64 n) (.int .i64 n)).run Tryz.prog w = .ok (.slice (some ⟨w.heap.size, 0, none⟩) n n) (w.alloc (.cells (List.replicate n (Value.bool false)).toArray 4)) := by
  obtain ⟨i, hi, hz, hsize, hby⟩ := info_parts infoBool
  have := run_make (P := Tryz.prog) w 181 4 i (.bool false) Tryz.underlying181 hi hz .i64 .i64 n n (by omega) (Int.le_refl _) (by rw [hby]; omega) (by omega)
  rw [this, hsize, ← made_one]
  simp [Value.cells]

theorem int_row1 (zs : List Int) (u : Int) : (zs ++ [u]).map (Value.int .i64) = zs.map (Value.int .i64) ++ [.int .i64 u] := by simp

end Go.Proofs.YtjghenomeindcaaGreat
