
/- What the methods of words.Mem do: contracts of check, note, Load, Store, Add, CompareAndSwap, Peek, Len over a memory that is described by its words and its log. -/
import Derived.Test.YtldjlcdccnnogaaGreatProg
import Derived.Test.YtldjlcdccnnogaaGreatBase
import Derived.Test.YtldjlcdccnnogaaGreatAtomic
namespace Go.Proofs.YtldjlcdccnnogaaGreat
open Go.RowKit Go.Lf

theorem infoAcc : (Tryz.prog.info? 252).map (fun i => (i.zero, i.size, i.bytes)) = some (some (.agg #[.int .i64 0, .int .i64 0, .int .u8 0, .int .u64 0, .int .u64 0, .bool false]), 6, 48) := by kernel_rfl

theorem cell_alloc_drewN {w : World} {b i : Nat} {v : Value} (h : w.cell? ⟨b, i, none⟩ = some v) (o : Obj) (n : Nat) : ((w.alloc o).drewN n).cell? ⟨b, i, none⟩ = some v :=
  (((Keep.refl Nil w).alloc o).drewN n).cell h (fun h => h)

/-- The memory at block b: its words' block bw, its log's slice. -/
structure MemRep (w : World) (b bw : Nat) (la : Option Addr) (lc : Nat) (ws : List Int) (log : List Acc) : Prop where
  head : w.heap[b]? = some (.cells #[.slice (some ⟨bw, 0, none⟩) ws.length ws.length, .slice la log.length lc] 132 (0, 0))
  row : w.heap[bw]? = some (.cells (u64s ws).toArray 137 (0, 0))
  lrow : w.ownsRow 0 252 6 (.slice la log.length lc) log.length (logCells log)
  ne1 : b ≠ bw
  ne2 : (Value.slice la log.length lc).ownBlock ≠ some b
  ne3 : (Value.slice la log.length lc).ownBlock ≠ some bw

/-- The memory at block b whose blocks are those of F. -/
def MemAt (w : World) (b : Nat) (F : Nat → Prop) (ws : List Int) (log : List Acc) : Prop :=
  ∃ bw la lc, MemRep w b bw la lc ws log ∧ ∀ k, F k ↔ k = b ∨ k = bw ∨ (Value.slice la log.length lc).ownBlock = some k

/-- The memory behind a call. -/
def MemTo (w : World) (b : Nat) (F : Nat → Prop) (ws : List Int) (log : List Acc) (w' : World) : Prop :=
  ∃ F', MemAt w' b F' ws log ∧ Keep F w w' ∧ Foot w F F'

theorem MemRep.cell0 {w : World} {b bw lc : Nat} {la : Option Addr} {ws : List Int} {log : List Acc} (h : MemRep w b bw la lc ws log) : w.cell? ⟨b, 0, none⟩ = some (.slice (some ⟨bw, 0, none⟩) ws.length ws.length) := by rw [cell_of h.head]; rfl
theorem MemRep.cell1 {w : World} {b bw lc : Nat} {la : Option Addr} {ws : List Int} {log : List Acc} (h : MemRep w b bw la lc ws log) : w.cell? ⟨b, 1, none⟩ = some (.slice la log.length lc) := by rw [cell_of h.head]; rfl
theorem MemRep.word {w : World} {b bw lc : Nat} {la : Option Addr} {ws : List Int} {log : List Acc} (h : MemRep w b bw la lc ws log) {i : Nat} {x : Int} (hx : ws[i]? = some x) : w.cell? ⟨bw, i, none⟩ = some (.int .u64 x) := by
  rw [cell_of h.row]; simpa using u64s_at hx
theorem MemRep.free {w : World} {b bw lc : Nat} {la : Option Addr} {ws : List Int} {log : List Acc} (h : MemRep w b bw la lc ws log) (i : Nat) : w.frozen? ⟨bw, i, none⟩ = false := free_of h.row i

/-- A word is set. -/
theorem MemRep.set {w : World} {b bw lc : Nat} {la : Option Addr} {ws : List Int} {log : List Acc} (h : MemRep w b bw la lc ws log) (i : Nat) (x : Int) :
    MemRep (w.setCell ⟨bw, i, none⟩ (.int .u64 x)) b bw la lc (ws.set i x) log := by
  refine ⟨?_, ?_, ?_, h.ne1, h.ne2, h.ne3⟩
  · rw [List.length_set]; exact set_other h.head (by simpa using h.ne1) _
  · rw [set_same h.row, ← u64s_set]; simp
  · exact ownsRow_setCell_other h.lrow (by simpa using h.ne3) _

theorem MemAt.lt {w : World} {b : Nat} {F : Nat → Prop} {ws : List Int} {log : List Acc} (h : MemAt w b F ws log) : ∀ k, F k → k < w.heap.size := by
  obtain ⟨bw, la, lc, h, hF⟩ := h
  intro k hk
  rcases (hF k).1 hk with rfl | rfl | hk
  · exact lt_of_block h.head
  · exact lt_of_block h.row
  · exact (h.lrow.lt k hk).2
theorem MemAt.keep {w w' : World} {b : Nat} {F S : Nat → Prop} {ws : List Int} {log : List Acc} (h : MemAt w b F ws log) (hk : Keep S w w') (hd : ∀ k, F k → ¬ S k) : MemAt w' b F ws log := by
  obtain ⟨bw, la, lc, h, hF⟩ := h
  exact ⟨bw, la, lc, ⟨hk.at h.head (hd b ((hF b).2 (.inl rfl))), hk.at h.row (hd bw ((hF bw).2 (.inr (.inl rfl)))), row_keep h.lrow hk (fun k e => hd k ((hF k).2 (.inr (.inr e)))), h.ne1, h.ne2, h.ne3⟩, hF⟩
theorem MemAt.has {w : World} {b : Nat} {F : Nat → Prop} {ws : List Int} {log : List Acc} (h : MemAt w b F ws log) : F b := by
  obtain ⟨bw, la, lc, h, hF⟩ := h
  exact (hF b).2 (.inl rfl)
theorem MemTo.trans {w w1 w2 : World} {b : Nat} {F F1 : Nat → Prop} {ws : List Int} {log : List Acc} (hk : Keep F w w1) (hf : Foot w F F1) (h : MemTo w1 b F1 ws log w2) : MemTo w b F ws log w2 := by
  obtain ⟨F2, h2, k2, f2⟩ := h
  refine ⟨F2, h2, hk.trans k2 (fun k hlt hF => ?_), fun k hF => ?_⟩
  · exact (hf k hF).elim id (fun h => absurd hlt (by omega))
  · rcases f2 k hF with h | h
    · exact hf k h
    · exact .inr (Nat.le_trans hk.size h)

set_option maxHeartbeats 400000 in
theorem note_any (b : Nat) (wsl : Value) (la : Option Addr) (lc : Nat) (t a k old v : Int) (sw : Bool) (n : Nat) (xs : List Value) (w : World)
    (hb : w.heap[b]? = some (.cells #[wsl, .slice la n lc] 132 (0, 0))) (hown : w.ownsRow 0 252 6 (.slice la n lc) n xs) (hne : (Value.slice la n lc).ownBlock ≠ some b) (hn : n < 1000000000000) :
    Calls Tryz.prog 139 #[.pointer (some ⟨b, 0, none⟩), .int .i64 t, .int .i64 a, .int .u8 k, .int .u64 old, .int .u64 v, .bool sw] w fun e w' => e = .returned (.tuple #[]) ∧
      ∃ la' lc', w'.heap[b]? = some (.cells #[wsl, .slice la' (n + 1) lc'] 132 (0, 0)) ∧ w'.ownsRow 0 252 6 (.slice la' (n + 1) lc') (n + 1) (xs ++ (Acc.mk t a k old v sw).cells) ∧
        RowStep w (.slice la n lc) (.slice la' (n + 1) lc') ∧ Keep (fun j => j = b ∨ (Value.slice la n lc).ownBlock = some j) w w' := by
  have hc0 : w.cell? ⟨b, 1, none⟩ = some (.slice la n lc) := by rw [cell_of hb]; rfl
  have hlt := lt_of_block hb
  have hown' := hid hown
  have hb' := hid hb
  clear hown hb
  go_enter Tryz.func139, Tryz.ntmps139
  go_wp2_with (at_builtin; refine wpList_app _ rfl _ _ 130 rfl 252 _ 6 48 Tryz.underlying130 infoAcc rfl (by decide) (.slice la n lc) n xs rfl (hown'.out.alloc _) _ 1 (Acc.mk t a k old v sw).cells rfl ?rd ?one ?byt ?len ?_)
  case rd => exact rd_new _ _ _ _ _ _
  case one => simp [Acc.cells, Value.oneCell']
  case byt => omega
  case len => unfold maxLen; omega
  intro la' lc' w1 ho hg hs
  have hb1 : w1.heap[b]? = some (.cells #[wsl, .slice la n lc] 132 (0, 0)) := (hg.block b (by simp; omega) (fun e => hne e.symm)).trans (alloc_old hb'.out _)
  have hf1 : w1.frozen? ⟨b, 1, none⟩ = false := free_of hb1 1
  have hc1 : w1.cell? ⟨b, 1, none⟩ = some (.slice la n lc) := by rw [cell_of hb1]; rfl
  have hsz : w.heap.size ≤ w1.heap.size := Nat.le_trans (by simp) hg.size
  have HG := hid hg
  have HB := hid hb1
  have HO := hid ho
  have HS := hid hs
  clear hg hb1 ho hs
  go_wp2
  go_end0
  refine ⟨rfl, la', lc', ?_, ?_, ?_, ?_⟩
  · rw [set_same HB.out]; rfl
  · refine ownsRow_setCell_other HO.out (fun e => ?_) _
    rcases HS.out b e with h | h
    · exact hne h
    · simp at h; omega
  · intro j hj
    rcases HS.out j hj with h | h
    · exact .inl h
    · exact .inr (by simp at h; omega)
  · refine Keep.setCell (Keep.grown (Keep.alloc (Keep.refl _ _) _) HG.out (fun j hj => .inl (.inr hj))) (.inl (.inl rfl)) _

set_option maxHeartbeats 400000 in
theorem check_ok (b : Nat) (t i : Int) (aw : Option Addr) (n c : Nat) (w : World) (hc : w.cell? ⟨b, 0, none⟩ = some (.slice aw n c)) (ht0 : 0 ≤ t) (ht1 : t < 64) (hi0 : 0 ≤ i) (hi1 : i < n) :
    Calls Tryz.prog 84 #[.pointer (some ⟨b, 0, none⟩), .int .i64 t, .int .i64 i] w fun e w' => e = .returned (.int .i64 0) ∧ w = w' := by
  go_enter Tryz.func84, Tryz.ntmps84
  go_wp2
  all_goals (go_ret; exact ⟨rfl, rfl⟩)

set_option maxHeartbeats 400000 in
theorem check_any (b : Nat) (t i : Int) (aw : Option Addr) (n c : Nat) (w : World) (hc : w.cell? ⟨b, 0, none⟩ = some (.slice aw n c)) :
    Calls Tryz.prog 84 #[.pointer (some ⟨b, 0, none⟩), .int .i64 t, .int .i64 i] w fun e w' => e = .returned (.int .i64 (errOf t i n)) ∧ w = w' := by
  go_enter Tryz.func84, Tryz.ntmps84
  go_wp2
  all_goals (go_ret; refine ⟨?_, rfl⟩; unfold errOf)
  · rw [if_pos (by omega)]; rfl
  · rw [if_neg (by omega), if_pos (by omega)]; rfl
  · rw [if_neg (by omega), if_neg (by omega)]; rfl
  · rw [if_neg (by omega), if_pos (by omega)]; rfl
  · rw [if_pos (by omega)]; rfl

set_option maxHeartbeats 400000 in
theorem check_nil (t i : Int) (w : World) :
    Calls Tryz.prog 84 #[.pointer none, .int .i64 t, .int .i64 i] w fun e w' => e = .returned (.int .i64 1) ∧ w = w' := by
  go_enter Tryz.func84, Tryz.ntmps84
  go_wp2
  go_ret
  exact ⟨rfl, rfl⟩
end Go.Proofs.YtldjlcdccnnogaaGreat

/-! What the accesses of words.Mem do: Load, Store, Add, CompareAndSwap, Peek, Len over a memory described by its words and its log. -/
namespace Go.Proofs.YtldjlcdccnnogaaGreat
open Go.RowKit Go.Lf

/-- note, over a memory that is described. -/
theorem note_to {b bw lc : Nat} {la : Option Addr} {ws : List Int} {log : List Acc} {F : Nat → Prop} (t a k old v : Int) (sw : Bool) (w w1 : World)
    (h : MemRep w1 b bw la lc ws log) (hF : ∀ k, F k ↔ k = b ∨ k = bw ∨ (Value.slice la log.length lc).ownBlock = some k) (hk : Keep F w w1) (hz : w.heap.size ≤ w1.heap.size) (hn : log.length < 1000000000000) :
    Calls Tryz.prog 139 #[.pointer (some ⟨b, 0, none⟩), .int .i64 t, .int .i64 a, .int .u8 k, .int .u64 old, .int .u64 v, .bool sw] w1 fun e w' => e = .returned (.tuple #[]) ∧ MemTo w b F ws (log ++ [⟨t, a, k, old, v, sw⟩]) w' := by
  refine (note_any b _ la lc t a k old v sw log.length (logCells log) w1 h.head h.lrow h.ne2 hn).mono ?_
  rintro e w' ⟨he, la', lc', h1, h2, h3, h4⟩
  refine ⟨he, fun k => k = b ∨ k = bw ∨ (Value.slice la' (log.length + 1) lc').ownBlock = some k, ⟨bw, la', lc', ⟨?_, ?_, ?_, h.ne1, ?_, ?_⟩, fun k => by simp⟩, ?_, ?_⟩
  · simpa using h1
  · refine h4.at h.row (fun hx => ?_)
    rcases hx with hx | hx
    · exact h.ne1 hx.symm
    · exact h.ne3 hx
  · rw [logCells_snoc]; simpa using h2
  · intro e
    rcases h3 b (by simpa using e) with h' | h'
    · exact h.ne2 h'
    · exact absurd (lt_of_block h.head) (by omega)
  · intro e
    rcases h3 bw (by simpa using e) with h' | h'
    · exact h.ne3 h'
    · exact absurd (lt_of_block h.row) (by omega)
  · refine hk.trans h4 (fun k _ hx => (hF k).2 ?_)
    rcases hx with hx | hx
    · exact .inl hx
    · exact .inr (.inr hx)
  · intro k hx
    rcases hx with hx | hx | hx
    · exact .inl ((hF k).2 (.inl hx))
    · exact .inl ((hF k).2 (.inr (.inl hx)))
    · rcases h3 k hx with h' | h'
      · exact .inl ((hF k).2 (.inr (.inr h')))
      · exact .inr (by omega)

/-! Each access: at a thread and an address that exist, and otherwise. -/
section
variable {b : Nat} {F : Nat → Prop} {ws : List Int} {log : List Acc} {w : World}

theorem MemAt.rep (h : MemAt w b F ws log) : ∃ bw la lc, MemRep w b bw la lc ws log ∧ ∀ k, F k ↔ k = b ∨ k = bw ∨ (Value.slice la log.length lc).ownBlock = some k := h

set_option maxHeartbeats 400000 in
theorem load_ok (h : MemAt w b F ws log) (t i x : Int) (ht0 : 0 ≤ t) (ht1 : t < 64) (hi0 : 0 ≤ i) (hx : ws[i.toNat]? = some x) (hn : log.length < 1000000000000) :
    Calls Tryz.prog 177 #[.pointer (some ⟨b, 0, none⟩), .int .i64 t, .int .i64 i] w fun e w' => e = .returned (.tuple #[.int .u64 x, .int .i64 0]) ∧ MemTo w b F ws (log ++ [⟨t, i, 1, x, x, false⟩]) w' := by
  obtain ⟨bw, la, lc, hr, hF⟩ := h.rep
  obtain ⟨n, rfl⟩ := Int.eq_ofNat_of_zero_le hi0
  have hlt : n < ws.length := lt_of_at (by simpa using hx)
  have hc0 := hr.cell0
  have hcx := hr.word (i := n) (x := x) (by simpa using hx)
  have HX := hid hx
  have HR := hid hr
  clear hx hr
  go_enter Tryz.func177, Tryz.ntmps177
  go_wp2_with (first | (go_at_call 84; refine (check_ok _ _ _ _ _ _ _ hc0 ht0 ht1 (by omega) (by omega)).mono ?_; rintro e w' ⟨rfl, rfl⟩) | (go_at_call 85; refine (aload_any _ _ _ _ hcx).mono ?_; rintro e w' ⟨rfl, rfl⟩) | (go_at_call 139; refine (note_to _ _ _ _ _ _ w _ HR.out hF (Keep.refl _ _) (Nat.le_refl _) hn).mono ?_; rintro e w' ⟨rfl, hto⟩))
  go_ret2
  exact ⟨rfl, hto⟩

set_option maxHeartbeats 400000 in
theorem load_err (h : MemAt w b F ws log) (t i : Int) (he : errOf t i ws.length ≠ 0) :
    Calls Tryz.prog 177 #[.pointer (some ⟨b, 0, none⟩), .int .i64 t, .int .i64 i] w fun e w' => e = .returned (.tuple #[.int .u64 0, .int .i64 (errOf t i ws.length)]) ∧ w = w' := by
  obtain ⟨bw, la, lc, hr, hF⟩ := h.rep
  have hc0 := hr.cell0
  clear hr
  have hne : (errOf t i ws.length != 0) = true := by simpa using he
  go_enter Tryz.func177, Tryz.ntmps177
  go_wp2_with (go_at_call 84; refine (check_any _ _ _ _ _ _ _ hc0).mono ?_; rintro e w' ⟨rfl, rfl⟩)
  go_ret2
  exact ⟨rfl, rfl⟩

set_option maxHeartbeats 400000 in
theorem store_ok (h : MemAt w b F ws log) (t i x v : Int) (ht0 : 0 ≤ t) (ht1 : t < 64) (hi0 : 0 ≤ i) (hx : ws[i.toNat]? = some x) (hn : log.length < 1000000000000) :
    Calls Tryz.prog 135 #[.pointer (some ⟨b, 0, none⟩), .int .i64 t, .int .i64 i, .int .u64 v] w fun e w' => e = .returned (.int .i64 0) ∧ MemTo w b F (ws.set i.toNat v) (log ++ [⟨t, i, 2, x, v, false⟩]) w' := by
  obtain ⟨bw, la, lc, hr, hF⟩ := h.rep
  obtain ⟨n, rfl⟩ := Int.eq_ofNat_of_zero_le hi0
  have hlt : n < ws.length := lt_of_at (by simpa using hx)
  have hc0 := hr.cell0
  have hcx := hr.word (i := n) (x := x) (by simpa using hx)
  have hfx := hr.free n
  have HS := hid (hr.set n v)
  have hkk : Keep F w (w.setCell ⟨bw, n, none⟩ (.int .u64 v)) := Keep.setCell (Keep.refl _ _) (.inl ((hF bw).2 (.inr (.inl rfl)))) _
  have hz : w.heap.size ≤ (w.setCell ⟨bw, n, none⟩ (.int .u64 v)).heap.size := hkk.size
  clear hx hr
  go_enter Tryz.func135, Tryz.ntmps135
  go_wp2_with (first | (go_at_call 84; refine (check_ok _ _ _ _ _ _ _ hc0 ht0 ht1 (by omega) (by omega)).mono ?_; rintro e w' ⟨rfl, rfl⟩) | (go_at_call 138; refine (aswap_any _ _ _ _ _ hcx hfx).mono ?_; rintro e w' ⟨rfl, rfl⟩) | (go_at_call 139; refine (note_to _ _ _ _ _ _ w _ HS.out hF hkk hz hn).mono ?_; rintro e w' ⟨rfl, hto⟩))
  go_ret
  exact ⟨rfl, by simpa using hto⟩

set_option maxHeartbeats 400000 in
theorem store_err (h : MemAt w b F ws log) (t i v : Int) (he : errOf t i ws.length ≠ 0) :
    Calls Tryz.prog 135 #[.pointer (some ⟨b, 0, none⟩), .int .i64 t, .int .i64 i, .int .u64 v] w fun e w' => e = .returned (.int .i64 (errOf t i ws.length)) ∧ w = w' := by
  obtain ⟨bw, la, lc, hr, hF⟩ := h.rep
  have hc0 := hr.cell0
  clear hr
  have hne : (errOf t i ws.length != 0) = true := by simpa using he
  go_enter Tryz.func135, Tryz.ntmps135
  go_wp2_with (go_at_call 84; refine (check_any _ _ _ _ _ _ _ hc0).mono ?_; rintro e w' ⟨rfl, rfl⟩)
  go_ret
  exact ⟨rfl, rfl⟩

set_option maxHeartbeats 400000 in
theorem add_ok (h : MemAt w b F ws log) (t i x v : Int) (ht0 : 0 ≤ t) (ht1 : t < 64) (hi0 : 0 ≤ i) (hx : ws[i.toNat]? = some x) (hx0 : 0 ≤ x) (hx1 : x < 18446744073709551616) (hn : log.length < 1000000000000) :
    Calls Tryz.prog 163 #[.pointer (some ⟨b, 0, none⟩), .int .i64 t, .int .i64 i, .int .u64 v] w fun e w' => e = .returned (.tuple #[.int .u64 (IntKind.u64.wrap (x + v)), .int .i64 0]) ∧
      MemTo w b F (ws.set i.toNat (IntKind.u64.wrap (x + v))) (log ++ [⟨t, i, 3, x, IntKind.u64.wrap (x + v), false⟩]) w' := by
  obtain ⟨bw, la, lc, hr, hF⟩ := h.rep
  obtain ⟨n, rfl⟩ := Int.eq_ofNat_of_zero_le hi0
  have hlt : n < ws.length := lt_of_at (by simpa using hx)
  have hc0 := hr.cell0
  have hcx := hr.word (i := n) (x := x) (by simpa using hx)
  have hfx := hr.free n
  have hsub : IntKind.u64.wrap (IntKind.u64.wrap (x + v) - v) = x := by rw [IntKind.wrap_u64, IntKind.wrap_u64]; omega
  obtain ⟨s, hs⟩ : ∃ s, s = IntKind.u64.wrap (x + v) := ⟨_, rfl⟩
  rw [← hs] at hsub ⊢
  have hsub' := hid hsub
  have HSum := hid hs
  clear hs hsub
  have HS := hid (hr.set n s)
  have hkk : Keep F w (w.setCell ⟨bw, n, none⟩ (.int .u64 s)) := Keep.setCell (Keep.refl _ _) (.inl ((hF bw).2 (.inr (.inl rfl)))) _
  have hz : w.heap.size ≤ (w.setCell ⟨bw, n, none⟩ (.int .u64 s)).heap.size := hkk.size
  have hadd : Calls Tryz.prog 166 #[.pointer (some ⟨bw, n, none⟩), .int .u64 v] w fun e w' => e = .returned (.int .u64 s) ∧ w.setCell ⟨bw, n, none⟩ (.int .u64 s) = w' := by
    rw [HSum.out, IntKind.wrap_u64]; exact aadd_any _ _ _ _ _ hcx hfx
  have hadd' := hid hadd
  clear hx hr hadd
  go_enter Tryz.func163, Tryz.ntmps163
  go_wp2_with (first | (go_at_call 84; refine (check_ok _ _ _ _ _ _ _ hc0 ht0 ht1 (by omega) (by omega)).mono ?_; rintro e w' ⟨rfl, rfl⟩) | (go_at_call 166; refine hadd'.out.mono ?_; rintro e w' ⟨rfl, rfl⟩) | (go_at_call 139; refine (note_to _ _ _ _ _ _ w _ HS.out hF hkk hz hn).mono ?_; rintro e w' ⟨rfl, hto⟩))
  go_ret2
  refine ⟨rfl, ?_⟩
  rw [hsub'.out] at hto
  simpa using hto

set_option maxHeartbeats 400000 in
theorem add_err (h : MemAt w b F ws log) (t i v : Int) (he : errOf t i ws.length ≠ 0) :
    Calls Tryz.prog 163 #[.pointer (some ⟨b, 0, none⟩), .int .i64 t, .int .i64 i, .int .u64 v] w fun e w' => e = .returned (.tuple #[.int .u64 0, .int .i64 (errOf t i ws.length)]) ∧ w = w' := by
  obtain ⟨bw, la, lc, hr, hF⟩ := h.rep
  have hc0 := hr.cell0
  clear hr
  have hne : (errOf t i ws.length != 0) = true := by simpa using he
  go_enter Tryz.func163, Tryz.ntmps163
  go_wp2_with (go_at_call 84; refine (check_any _ _ _ _ _ _ _ hc0).mono ?_; rintro e w' ⟨rfl, rfl⟩)
  go_ret2
  exact ⟨rfl, rfl⟩

set_option maxHeartbeats 400000 in
theorem cas_yes (h : MemAt w b F ws log) (t i x v : Int) (ht0 : 0 ≤ t) (ht1 : t < 64) (hi0 : 0 ≤ i) (hx : ws[i.toNat]? = some x) (hn : log.length < 1000000000000) :
    Calls Tryz.prog 175 #[.pointer (some ⟨b, 0, none⟩), .int .i64 t, .int .i64 i, .int .u64 x, .int .u64 v] w fun e w' => e = .returned (.tuple #[.bool true, .int .i64 0]) ∧
      MemTo w b F (ws.set i.toNat v) (log ++ [⟨t, i, 4, x, v, true⟩]) w' := by
  obtain ⟨bw, la, lc, hr, hF⟩ := h.rep
  obtain ⟨n, rfl⟩ := Int.eq_ofNat_of_zero_le hi0
  have hlt : n < ws.length := lt_of_at (by simpa using hx)
  have hc0 := hr.cell0
  have hcx := hr.word (i := n) (x := x) (by simpa using hx)
  have hfx := hr.free n
  have hr2 := hr.set n v
  have hc2 := hr2.cell0
  have hv2 := hr2.word (i := n) (x := v) (by simp [hlt])
  rw [List.length_set] at hc2
  have HS := hid hr2
  have hkk : Keep F w (w.setCell ⟨bw, n, none⟩ (.int .u64 v)) := Keep.setCell (Keep.refl _ _) (.inl ((hF bw).2 (.inr (.inl rfl)))) _
  have hz : w.heap.size ≤ (w.setCell ⟨bw, n, none⟩ (.int .u64 v)).heap.size := hkk.size
  clear hx hr hr2
  go_enter Tryz.func175, Tryz.ntmps175
  go_wp2_with (first | (go_at_call 84; refine (check_ok _ _ _ _ _ _ _ hc0 ht0 ht1 (by omega) (by omega)).mono ?_; rintro e w' ⟨rfl, rfl⟩) | (go_at_call 85; with_reducible refine (aload_any _ _ _ _ hcx).mono ?_; rintro e w' ⟨rfl, rfl⟩) | (go_at_call 85; refine (aload_any _ _ _ _ hv2).mono ?_; rintro e w' ⟨rfl, rfl⟩) | (go_at_call 179; refine (acas_yes _ _ _ _ _ hcx hfx).mono ?_; rintro e w' ⟨rfl, rfl⟩) | (go_at_call 139; refine (note_to _ _ _ _ _ _ w _ HS.out hF hkk hz hn).mono ?_; rintro e w' ⟨rfl, hto⟩))
  go_ret2
  exact ⟨rfl, by simpa using hto⟩

set_option maxHeartbeats 400000 in
theorem cas_no (h : MemAt w b F ws log) (t i x o v : Int) (ht0 : 0 ≤ t) (ht1 : t < 64) (hi0 : 0 ≤ i) (hx : ws[i.toNat]? = some x) (hne : x ≠ o) (hn : log.length < 1000000000000) :
    Calls Tryz.prog 175 #[.pointer (some ⟨b, 0, none⟩), .int .i64 t, .int .i64 i, .int .u64 o, .int .u64 v] w fun e w' => e = .returned (.tuple #[.bool false, .int .i64 0]) ∧
      MemTo w b F ws (log ++ [⟨t, i, 4, x, x, false⟩]) w' := by
  obtain ⟨bw, la, lc, hr, hF⟩ := h.rep
  obtain ⟨n, rfl⟩ := Int.eq_ofNat_of_zero_le hi0
  have hlt : n < ws.length := lt_of_at (by simpa using hx)
  have hc0 := hr.cell0
  have hcx := hr.word (i := n) (x := x) (by simpa using hx)
  have hfx := hr.free n
  have HR := hid hr
  have hne' : (x == o) = false := by simpa using hne
  have HN := hid hne'
  clear hx hr hne hne'
  go_enter Tryz.func175, Tryz.ntmps175
  go_wp2_with (first | (go_at_call 84; refine (check_ok _ _ _ _ _ _ _ hc0 ht0 ht1 (by omega) (by omega)).mono ?_; rintro e w' ⟨rfl, rfl⟩) | (go_at_call 85; refine (aload_any _ _ _ _ hcx).mono ?_; rintro e w' ⟨rfl, rfl⟩) | (go_at_call 179; refine (acas_no _ _ _ _ _ _ hcx hfx HN.out).mono ?_; rintro e w' ⟨rfl, rfl⟩) | (go_at_call 139; refine (note_to _ _ _ _ _ _ w _ HR.out hF (Keep.refl _ _) (Nat.le_refl _) hn).mono ?_; rintro e w' ⟨rfl, hto⟩))
  go_ret2
  exact ⟨rfl, hto⟩

set_option maxHeartbeats 400000 in
theorem cas_err (h : MemAt w b F ws log) (t i o v : Int) (he : errOf t i ws.length ≠ 0) :
    Calls Tryz.prog 175 #[.pointer (some ⟨b, 0, none⟩), .int .i64 t, .int .i64 i, .int .u64 o, .int .u64 v] w fun e w' => e = .returned (.tuple #[.bool false, .int .i64 (errOf t i ws.length)]) ∧ w = w' := by
  obtain ⟨bw, la, lc, hr, hF⟩ := h.rep
  have hc0 := hr.cell0
  clear hr
  have hne : (errOf t i ws.length != 0) = true := by simpa using he
  go_enter Tryz.func175, Tryz.ntmps175
  go_wp2_with (go_at_call 84; refine (check_any _ _ _ _ _ _ _ hc0).mono ?_; rintro e w' ⟨rfl, rfl⟩)
  go_ret2
  exact ⟨rfl, rfl⟩

set_option maxHeartbeats 400000 in
theorem peek_ok (h : MemAt w b F ws log) (i x : Int) (hi0 : 0 ≤ i) (hx : ws[i.toNat]? = some x) :
    Calls Tryz.prog 78 #[.pointer (some ⟨b, 0, none⟩), .int .i64 i] w fun e w' => e = .returned (.tuple #[.int .u64 x, .bool true]) ∧ w = w' := by
  obtain ⟨bw, la, lc, hr, hF⟩ := h.rep
  obtain ⟨n, rfl⟩ := Int.eq_ofNat_of_zero_le hi0
  have hlt : n < ws.length := lt_of_at (by simpa using hx)
  have hc0 := hr.cell0
  have hcx := hr.word (i := n) (x := x) (by simpa using hx)
  clear hx hr
  go_enter Tryz.func78, Tryz.ntmps78
  go_wp2_with (first | (go_at_call 84; refine (check_ok _ _ _ _ _ _ _ hc0 (by omega) (by omega) (by omega) (by omega)).mono ?_; rintro e w' ⟨rfl, rfl⟩) | (go_at_call 85; refine (aload_any _ _ _ _ hcx).mono ?_; rintro e w' ⟨rfl, rfl⟩))
  go_ret2
  exact ⟨rfl, rfl⟩

set_option maxHeartbeats 400000 in
theorem peek_no (h : MemAt w b F ws log) (i : Int) (hi : i < 0 ∨ (ws.length : Int) ≤ i) :
    Calls Tryz.prog 78 #[.pointer (some ⟨b, 0, none⟩), .int .i64 i] w fun e w' => e = .returned (.tuple #[.int .u64 0, .bool false]) ∧ w = w' := by
  obtain ⟨bw, la, lc, hr, hF⟩ := h.rep
  have hc0 := hr.cell0
  clear hr
  have hne : (errOf 0 i ws.length != 0) = true := by
    have : ¬ errOf 0 i ws.length = 0 := fun e => by have := errOf_zero.1 e; omega
    simpa using this
  go_enter Tryz.func78, Tryz.ntmps78
  go_wp2_with (go_at_call 84; refine (check_any _ _ _ _ _ _ _ hc0).mono ?_; rintro e w' ⟨rfl, rfl⟩)
  go_ret2
  exact ⟨rfl, rfl⟩

end
end Go.Proofs.YtldjlcdccnnogaaGreat

/-! words.New, Words and Log: contracts. -/
namespace Go.Proofs.YtldjlcdccnnogaaGreat
open Go.RowKit Go.Lf

theorem infoU64 : (Tryz.prog.info? 41).map (fun i => (i.zero, i.size, i.bytes)) = some (some (.int .u64 0), 1, 8) := by kernel_rfl
theorem infoAtomic : (Tryz.prog.info? 137).map (fun i => (i.zero, i.size, i.bytes)) = some (some (.agg #[.int .u64 0]), 1, 8) := by kernel_rfl

/-- A new object with the number E: nothing that was there has turned. -/
def MNewTo (w : World) (ws : List Int) (e : Ending) (w' : World) : Prop :=
  ∃ b F, e = .returned (.tuple #[.pointer (some ⟨b, 0, none⟩), .int .i64 0]) ∧ MemAt w' b F ws [] ∧ Keep Nil w w' ∧ Foot w Nil F

theorem ret_num {k : IntKind} {a b : Int} (h : a = b) : Ending.returned (.int k a) = .returned (.int k b) := by rw [h]

set_option maxHeartbeats 400000 in
theorem size_any (n : Int) (w : World) :
    Calls Tryz.prog 55 #[.int .i64 n] w fun e w' => e = .returned (.int .i64 (szErr n)) ∧ w = w' := by
  go_enter Tryz.func55, Tryz.ntmps55
  go_wp2
  all_goals go_ret
  · exact ⟨ret_num (szErr_zero (by simp_all)).symm, rfl⟩
  · exact ⟨ret_num (szErr_big (by assumption)).symm, rfl⟩
  · have hne : ¬ n = 0 := by simp_all
    by_cases hp : 0 < n
    · exact ⟨ret_num (szErr_ok hp (by assumption)).symm, rfl⟩
    · exact ⟨ret_num (by unfold szErr; rw [if_neg hne, if_neg (by omega)]), rfl⟩

set_option maxHeartbeats 400000 in
theorem new_err (a : Option Addr) (n c : Nat) (w : World) (hn : n = 0 ∨ 65536 < n) (hm : n ≤ maxLen) :
    Calls Tryz.prog 26 #[.slice a n c] w fun e w' => e = .returned (.tuple #[.pointer none, .int .i64 (szErr n)]) ∧ w = w' := by
  unfold maxLen at hm
  have hne : (szErr n != 0) = true := by
    rcases hn with rfl | hn
    · rfl
    · rw [szErr_big (by omega)]; rfl
  clear hn
  go_enter Tryz.func26, Tryz.ntmps26
  go_wp2_with (go_at_call 55; refine (size_any _ _).mono ?_; rintro e w' ⟨rfl, rfl⟩)
  go_ret2
  exact ⟨rfl, rfl⟩

set_option maxHeartbeats 1000000 in
theorem new_ok (v : Value) (ws : List Int) (w : World) (hrd : Rd w 1 v ws.length (u64s ws)) (h0 : 0 < ws.length) (h1 : ws.length ≤ 65536) :
    Calls Tryz.prog 26 #[v] w (MNewTo w ws) := by
  obtain ⟨b, off, c, rfl, hc⟩ := Rd.cell hrd h0
  have hs : Calls Tryz.prog 55 #[.int .i64 (ws.length : Int)] w fun e w' => e = .returned (.int .i64 0) ∧ w = w' := by
    have h1 : szErr (ws.length : Int) = 0 := szErr_ok (by omega) (by omega)
    rw [← h1]; exact size_any _ _
  have HS := hid hs
  have HC := hid hc
  clear hs hc
  go_enter Tryz.func26, Tryz.ntmps26
  go_wp2_with (first | (go_at_call 55; refine HS.out.mono ?_; rintro e w' ⟨rfl, rfl⟩) | (at_make; refine wpList_mk _ rfl _ _ 129 rfl 137 _ 1 8 Tryz.underlying129 infoAtomic _ _ (ws.length : Int) rfl rfl ?p0 ?p1 ?p2 ?_))
  case p0 => omega
  case p1 => omega
  case p2 => omega
  intro w1 hh hk hz
  have HH := hid hh
  have HK := hid hk
  have HZ := hid hz
  clear hh hk hz
  have hrow : w1.heap[w.heap.size]? = some (.cells (u64s (filled ws 0)).toArray 137 (0, 0)) := by
    rw [HH.out, made_one, filled_zero]; simp [u64s]
  have HROW := hid hrow
  clear hrow
  go_wp2
  go_loopw [21] (fun i wr => ∃ k : Nat, k ≤ ws.length ∧ i = .int .i64 k ∧ wr.heap[w.heap.size]? = some (.cells (u64s (filled ws k)).toArray 137 (0, 0)) ∧
      wr.heap[w1.heap.size]? = some (.cells #[.slice (some ⟨w.heap.size, 0, none⟩) ws.length ws.length, .slice none 0 0] 132 (0, 0)) ∧ Keep Nil w wr) (fun i _ => ws.length - (intOf i).toNat)
  case atStart => exact ⟨0, Nat.zero_le _, rfl, alloc_old HROW.out _, heap_alloc_new _ _, HK.out.alloc _⟩
  case round =>
    obtain ⟨k, hk, rfl, hr, hm, hkk⟩ := hrel
    have hcm : wr.cell? ⟨w1.heap.size, 0, none⟩ = some (.slice (some ⟨w.heap.size, 0, none⟩) ws.length ws.length) := by rw [cell_of hm]; rfl
    have HR := hid hr
    have HM := hid hm
    have HKK := hid hkk
    clear hr hm hkk
    by_cases hlt : k < ws.length
    · obtain ⟨x, hx⟩ : ∃ x, ws[k]? = some x := ⟨_, List.getElem?_eq_getElem hlt⟩
      have hcx : wr.cell? ⟨b, off + k, none⟩ = some (.int .u64 x) := HKK.out.cell (HC.out k _ (u64s_at hx)) (fun h => h)
      have hcz : wr.cell? ⟨w.heap.size, k, none⟩ = some (.int .u64 0) := by rw [cell_of HR.out]; simpa using u64s_at (filled_at ws k hlt)
      have hfz : wr.frozen? ⟨w.heap.size, k, none⟩ = false := free_of HR.out k
      have HX := hid hx
      clear hx
      go_wp2_with (go_at_call 56; refine (astore_any _ _ _ _ _ hcz hfz).mono ?_; rintro e w' ⟨rfl, rfl⟩)
      go_roundw
      case rel =>
        refine ⟨k + 1, by omega, by go_num, ?_, ?_, ?_⟩
        · rw [set_same HR.out, ← filled_set ws k x HX.out, ← u64s_set]; simp
        · exact set_other HM.out (by simp; have := HZ.out; omega) _
        · exact Keep.setCell HKK.out (.inr (Nat.le_refl _)) _
      case measure => simp [intOf]; omega
    · obtain rfl : k = ws.length := by omega
      go_wp2
      go_ret2
      rw [filled_all] at HR
      refine ⟨w1.heap.size, fun j => j = w1.heap.size ∨ j = w.heap.size, rfl, ⟨w.heap.size, none, 0, ⟨HM.out, HR.out, World.ownsRow_nil _ _ _ _, by have := HZ.out; omega, by simp [Value.ownBlock], by simp [Value.ownBlock]⟩, fun j => by simp [Value.ownBlock]⟩, HKK.out, fun j hj => .inr ?_⟩
      have := HZ.out
      rcases hj with rfl | rfl <;> omega
end Go.Proofs.YtldjlcdccnnogaaGreat

/-! words.Mem: Words and Log: contracts. -/
namespace Go.Proofs.YtldjlcdccnnogaaGreat
open Go.RowKit Go.Lf

/-- A new row is returned: n elements of type T, the cells cs. -/
def RowTo (w : World) (T : TypeId) (n : Nat) (cs : List Value) (e : Ending) (w' : World) : Prop :=
  ∃ g, e = .returned (.slice (some ⟨g, 0, none⟩) n n) ∧ w'.heap[g]? = some (.cells cs.toArray T (0, 0)) ∧ w.heap.size ≤ g ∧ Keep Nil w w'

section
variable {b : Nat} {F : Nat → Prop} {ws : List Int} {log : List Acc} {w : World}

end
end Go.Proofs.YtldjlcdccnnogaaGreat

/-! Rows of numbers and Booleans: zero values, make. -/
namespace Go.Proofs.YtldjlcdccnnogaaGreat
open Go.RowKit Go.Lf
theorem infoBool : (Tryz.prog.info? 4).map (fun i => (i.zero, i.size, i.bytes)) = some (some (.bool false), 1, 1) := by kernel_rfl
theorem infoInt : (Tryz.prog.info? 3).map (fun i => (i.zero, i.size, i.bytes)) = some (some (.int .i64 0), 1, 8) := by kernel_rfl

theorem make_u64 (n : Nat) (hn : n ≤ 1000000) (w : World) : (Instr.makeSlice 88 (.int .i64 n) (.int .i64 n)).run Tryz.prog w = .ok (.slice (some ⟨w.heap.size, 0, none⟩) n n) (w.alloc (.cells (List.replicate n (Value.int .u64 0)).toArray 41)) := by
  obtain ⟨i, hi, hz, hsize, hby⟩ := info_parts infoU64
  have := run_make (P := Tryz.prog) w 88 41 i (.int .u64 0) Tryz.underlying88 hi hz .i64 .i64 n n (by omega) (Int.le_refl _) (by rw [hby]; omega) (by omega)
  rw [this, hsize, ← made_one]
  simp [Value.cells]
theorem make_bool (n : Nat) (hn : n ≤ 1000000) (w : World) : (Instr.makeSlice 193 (.int .i64 n) (.int .i64 n)).run Tryz.prog w = .ok (.slice (some ⟨w.heap.size, 0, none⟩) n n) (w.alloc (.cells (List.replicate n (Value.bool false)).toArray 4)) := by
  obtain ⟨i, hi, hz, hsize, hby⟩ := info_parts infoBool
  have := run_make (P := Tryz.prog) w 193 4 i (.bool false) Tryz.underlying193 hi hz .i64 .i64 n n (by omega) (Int.le_refl _) (by rw [hby]; omega) (by omega)
  rw [this, hsize, ← made_one]
  simp [Value.cells]

theorem int_row1 (zs : List Int) (u : Int) : (zs ++ [u]).map (Value.int .i64) = zs.map (Value.int .i64) ++ [.int .i64 u] := by simp

end Go.Proofs.YtldjlcdccnnogaaGreat
