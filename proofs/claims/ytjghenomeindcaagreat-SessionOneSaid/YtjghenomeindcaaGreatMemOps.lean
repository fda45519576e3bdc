
/- What the accesses of words.Mem do: Load, Store, Add, CompareAndSwap, Peek, Len over a memory described by its words and its log. -/
import Derived.Test.YtjghenomeindcaaGreatMem
namespace Go.Proofs.YtjghenomeindcaaGreat
open Go.RowKit Go.Lf

/-- note, over a memory that is described. -/
theorem note_to {b bw lc : Nat} {la : Option Addr} {ws : List Int} {log : List Acc} {F : Nat → Prop} (t a k old v : Int) (sw : Bool) (w w1 : World)
    (h : MemRep w1 b bw la lc ws log) (hF : ∀ k, F k ↔ k = b ∨ k = bw ∨ (Value.slice la log.length lc).ownBlock = some k) (hk : Keep F w w1) (hz : w.heap.size ≤ w1.heap.size) (hn : log.length < 1000000000000) :
    Calls Tryz.prog 66 #[.pointer (some ⟨b, 0, none⟩), .int .i64 t, .int .i64 a, .int .u8 k, .int .u64 old, .int .u64 v, .bool sw] w1 fun e w' => e = .returned (.tuple #[]) ∧ MemTo w b F ws (log ++ [⟨t, a, k, old, v, sw⟩]) w' := by
  refine (note_any b _ la lc t a k old v sw log.length (logCells log) w1 h.head h.lrow h.ne2 hn).mono ?_
  rintro e w' ⟨he, la', lc', h1, h2, h3, h4⟩
  refine ⟨he, fun k => k = b ∨ k = bw ∨ (Value.slice la' (log.length + 1) lc').ownBlock = some k, ⟨bw, la', lc', ⟨?_, ?_, ?_, h.ne1, ?_, ?_⟩, fun k => by simp⟩, ?_, ?_⟩
  · simpa using h1
  · refine h4.at h.row (fun hx => ?_)
    rcases hx with hx | hx
    · exact h.ne1 hx.symm
    · exact h.ne3 hx
  · rw [logCells_snoc]; simpa using h2
  · intro e
    rcases h3 b (by simpa using e) with h' | h'
    · exact h.ne2 h'
    · exact absurd (lt_of_block h.head) (by omega)
  · intro e
    rcases h3 bw (by simpa using e) with h' | h'
    · exact h.ne3 h'
    · exact absurd (lt_of_block h.row) (by omega)
  · refine hk.trans h4 (fun k _ hx => (hF k).2 ?_)
    rcases hx with hx | hx
    · exact .inl hx
    · exact .inr (.inr hx)
  · intro k hx
    rcases hx with hx | hx | hx
    · exact .inl ((hF k).2 (.inl hx))
    · exact .inl ((hF k).2 (.inr (.inl hx)))
    · rcases h3 k hx with h' | h'
      · exact .inl ((hF k).2 (.inr (.inr h')))
      · exact .inr (by omega)

/-! Each access: at a thread and an address that exist, and otherwise. -/
section
variable {b : Nat} {F : Nat → Prop} {ws : List Int} {log : List Acc} {w : World}

theorem MemAt.rep (h : MemAt w b F ws log) : ∃ bw la lc, MemRep w b bw la lc ws log ∧ ∀ k, F k ↔ k = b ∨ k = bw ∨ (Value.slice la log.length lc).ownBlock = some k := h

set_option maxHeartbeats 400000 in
theorem load_ok (h : MemAt w b F ws log) (t i x : Int) (ht0 : 0 ≤ t) (ht1 : t < 64) (hi0 : 0 ≤ i) (hx : ws[i.toNat]? = some x) (hn : log.length < 1000000000000) :
    Calls Tryz.prog 128 #[.pointer (some ⟨b, 0, none⟩), .int .i64 t, .int .i64 i] w fun e w' => e = .returned (.tuple #[.int .u64 x, .int .i64 0]) ∧ MemTo w b F ws (log ++ [⟨t, i, 1, x, x, false⟩]) w' := by
  obtain ⟨bw, la, lc, hr, hF⟩ := h.rep
  obtain ⟨n, rfl⟩ := Int.eq_ofNat_of_zero_le hi0
  have hlt : n < ws.length := lt_of_at (by simpa using hx)
  have hc0 := hr.cell0
  have hcx := hr.word (i := n) (x := x) (by simpa using hx)
  have HX := hid hx
  have HR := hid hr
  clear hx hr
  go_enter Tryz.func128, Tryz.ntmps128
  go_wp2_with (first | (go_at_call 64; refine (check_ok _ _ _ _ _ _ _ hc0 ht0 ht1 (by omega) (by omega)).mono ?_; rintro e w' ⟨rfl, rfl⟩) | (go_at_call 115; refine (aload_any _ _ _ _ hcx).mono ?_; rintro e w' ⟨rfl, rfl⟩) | (go_at_call 66; refine (note_to _ _ _ _ _ _ w _ HR.out hF (Keep.refl _ _) (Nat.le_refl _) hn).mono ?_; rintro e w' ⟨rfl, hto⟩))
  go_ret2
  exact ⟨rfl, hto⟩

set_option maxHeartbeats 400000 in
theorem load_err (h : MemAt w b F ws log) (t i : Int) (he : errOf t i ws.length ≠ 0) :
    Calls Tryz.prog 128 #[.pointer (some ⟨b, 0, none⟩), .int .i64 t, .int .i64 i] w fun e w' => e = .returned (.tuple #[.int .u64 0, .int .i64 (errOf t i ws.length)]) ∧ w = w' := by
  obtain ⟨bw, la, lc, hr, hF⟩ := h.rep
  have hc0 := hr.cell0
  clear hr
  have hne : (errOf t i ws.length != 0) = true := by simpa using he
  go_enter Tryz.func128, Tryz.ntmps128
  go_wp2_with (go_at_call 64; refine (check_any _ _ _ _ _ _ _ hc0).mono ?_; rintro e w' ⟨rfl, rfl⟩)
  go_ret2
  exact ⟨rfl, rfl⟩

set_option maxHeartbeats 400000 in
theorem store_ok (h : MemAt w b F ws log) (t i x v : Int) (ht0 : 0 ≤ t) (ht1 : t < 64) (hi0 : 0 ≤ i) (hx : ws[i.toNat]? = some x) (hn : log.length < 1000000000000) :
    Calls Tryz.prog 20 #[.pointer (some ⟨b, 0, none⟩), .int .i64 t, .int .i64 i, .int .u64 v] w fun e w' => e = .returned (.int .i64 0) ∧ MemTo w b F (ws.set i.toNat v) (log ++ [⟨t, i, 2, x, v, false⟩]) w' := by
  obtain ⟨bw, la, lc, hr, hF⟩ := h.rep
  obtain ⟨n, rfl⟩ := Int.eq_ofNat_of_zero_le hi0
  have hlt : n < ws.length := lt_of_at (by simpa using hx)
  have hc0 := hr.cell0
  have hcx := hr.word (i := n) (x := x) (by simpa using hx)
  have hfx := hr.free n
  have HS := hid (hr.set n v)
  have hkk : Keep F w (w.setCell ⟨bw, n, none⟩ (.int .u64 v)) := Keep.setCell (Keep.refl _ _) (.inl ((hF bw).2 (.inr (.inl rfl)))) _
  have hz : w.heap.size ≤ (w.setCell ⟨bw, n, none⟩ (.int .u64 v)).heap.size := hkk.size
  clear hx hr
  go_enter Tryz.func20, Tryz.ntmps20
  go_wp2_with (first | (go_at_call 64; refine (check_ok _ _ _ _ _ _ _ hc0 ht0 ht1 (by omega) (by omega)).mono ?_; rintro e w' ⟨rfl, rfl⟩) | (go_at_call 65; refine (aswap_any _ _ _ _ _ hcx hfx).mono ?_; rintro e w' ⟨rfl, rfl⟩) | (go_at_call 66; refine (note_to _ _ _ _ _ _ w _ HS.out hF hkk hz hn).mono ?_; rintro e w' ⟨rfl, hto⟩))
  go_ret
  exact ⟨rfl, by simpa using hto⟩

set_option maxHeartbeats 400000 in
theorem store_err (h : MemAt w b F ws log) (t i v : Int) (he : errOf t i ws.length ≠ 0) :
    Calls Tryz.prog 20 #[.pointer (some ⟨b, 0, none⟩), .int .i64 t, .int .i64 i, .int .u64 v] w fun e w' => e = .returned (.int .i64 (errOf t i ws.length)) ∧ w = w' := by
  obtain ⟨bw, la, lc, hr, hF⟩ := h.rep
  have hc0 := hr.cell0
  clear hr
  have hne : (errOf t i ws.length != 0) = true := by simpa using he
  go_enter Tryz.func20, Tryz.ntmps20
  go_wp2_with (go_at_call 64; refine (check_any _ _ _ _ _ _ _ hc0).mono ?_; rintro e w' ⟨rfl, rfl⟩)
  go_ret
  exact ⟨rfl, rfl⟩

set_option maxHeartbeats 400000 in
theorem cas_yes (h : MemAt w b F ws log) (t i x v : Int) (ht0 : 0 ≤ t) (ht1 : t < 64) (hi0 : 0 ≤ i) (hx : ws[i.toNat]? = some x) (hn : log.length < 1000000000000) :
    Calls Tryz.prog 59 #[.pointer (some ⟨b, 0, none⟩), .int .i64 t, .int .i64 i, .int .u64 x, .int .u64 v] w fun e w' => e = .returned (.tuple #[.bool true, .int .i64 0]) ∧
      MemTo w b F (ws.set i.toNat v) (log ++ [⟨t, i, 4, x, v, true⟩]) w' := by
  obtain ⟨bw, la, lc, hr, hF⟩ := h.rep
  obtain ⟨n, rfl⟩ := Int.eq_ofNat_of_zero_le hi0
  have hlt : n < ws.length := lt_of_at (by simpa using hx)
  have hc0 := hr.cell0
  have hcx := hr.word (i := n) (x := x) (by simpa using hx)
  have hfx := hr.free n
  have hr2 := hr.set n v
  have hc2 := hr2.cell0
  have hv2 := hr2.word (i := n) (x := v) (by simp [hlt])
  rw [List.length_set] at hc2
  have HS := hid hr2
  have hkk : Keep F w (w.setCell ⟨bw, n, none⟩ (.int .u64 v)) := Keep.setCell (Keep.refl _ _) (.inl ((hF bw).2 (.inr (.inl rfl)))) _
  have hz : w.heap.size ≤ (w.setCell ⟨bw, n, none⟩ (.int .u64 v)).heap.size := hkk.size
  clear hx hr hr2
  go_enter Tryz.func59, Tryz.ntmps59
  go_wp2_with (first | (go_at_call 64; refine (check_ok _ _ _ _ _ _ _ hc0 ht0 ht1 (by omega) (by omega)).mono ?_; rintro e w' ⟨rfl, rfl⟩) | (go_at_call 115; with_reducible refine (aload_any _ _ _ _ hcx).mono ?_; rintro e w' ⟨rfl, rfl⟩) | (go_at_call 115; refine (aload_any _ _ _ _ hv2).mono ?_; rintro e w' ⟨rfl, rfl⟩) | (go_at_call 116; refine (acas_yes _ _ _ _ _ hcx hfx).mono ?_; rintro e w' ⟨rfl, rfl⟩) | (go_at_call 66; refine (note_to _ _ _ _ _ _ w _ HS.out hF hkk hz hn).mono ?_; rintro e w' ⟨rfl, hto⟩))
  go_ret2
  exact ⟨rfl, by simpa using hto⟩

set_option maxHeartbeats 400000 in
theorem cas_no (h : MemAt w b F ws log) (t i x o v : Int) (ht0 : 0 ≤ t) (ht1 : t < 64) (hi0 : 0 ≤ i) (hx : ws[i.toNat]? = some x) (hne : x ≠ o) (hn : log.length < 1000000000000) :
    Calls Tryz.prog 59 #[.pointer (some ⟨b, 0, none⟩), .int .i64 t, .int .i64 i, .int .u64 o, .int .u64 v] w fun e w' => e = .returned (.tuple #[.bool false, .int .i64 0]) ∧
      MemTo w b F ws (log ++ [⟨t, i, 4, x, x, false⟩]) w' := by
  obtain ⟨bw, la, lc, hr, hF⟩ := h.rep
  obtain ⟨n, rfl⟩ := Int.eq_ofNat_of_zero_le hi0
  have hlt : n < ws.length := lt_of_at (by simpa using hx)
  have hc0 := hr.cell0
  have hcx := hr.word (i := n) (x := x) (by simpa using hx)
  have hfx := hr.free n
  have HR := hid hr
  have hne' : (x == o) = false := by simpa using hne
  have HN := hid hne'
  clear hx hr hne hne'
  go_enter Tryz.func59, Tryz.ntmps59
  go_wp2_with (first | (go_at_call 64; refine (check_ok _ _ _ _ _ _ _ hc0 ht0 ht1 (by omega) (by omega)).mono ?_; rintro e w' ⟨rfl, rfl⟩) | (go_at_call 115; refine (aload_any _ _ _ _ hcx).mono ?_; rintro e w' ⟨rfl, rfl⟩) | (go_at_call 116; refine (acas_no _ _ _ _ _ _ hcx hfx HN.out).mono ?_; rintro e w' ⟨rfl, rfl⟩) | (go_at_call 66; refine (note_to _ _ _ _ _ _ w _ HR.out hF (Keep.refl _ _) (Nat.le_refl _) hn).mono ?_; rintro e w' ⟨rfl, hto⟩))
  go_ret2
  exact ⟨rfl, hto⟩

set_option maxHeartbeats 400000 in
theorem cas_err (h : MemAt w b F ws log) (t i o v : Int) (he : errOf t i ws.length ≠ 0) :
    Calls Tryz.prog 59 #[.pointer (some ⟨b, 0, none⟩), .int .i64 t, .int .i64 i, .int .u64 o, .int .u64 v] w fun e w' => e = .returned (.tuple #[.bool false, .int .i64 (errOf t i ws.length)]) ∧ w = w' := by
  obtain ⟨bw, la, lc, hr, hF⟩ := h.rep
  have hc0 := hr.cell0
  clear hr
  have hne : (errOf t i ws.length != 0) = true := by simpa using he
  go_enter Tryz.func59, Tryz.ntmps59
  go_wp2_with (go_at_call 64; refine (check_any _ _ _ _ _ _ _ hc0).mono ?_; rintro e w' ⟨rfl, rfl⟩)
  go_ret2
  exact ⟨rfl, rfl⟩

set_option maxHeartbeats 400000 in
theorem peek_ok (h : MemAt w b F ws log) (i x : Int) (hi0 : 0 ≤ i) (hx : ws[i.toNat]? = some x) :
    Calls Tryz.prog 61 #[.pointer (some ⟨b, 0, none⟩), .int .i64 i] w fun e w' => e = .returned (.tuple #[.int .u64 x, .bool true]) ∧ w = w' := by
  obtain ⟨bw, la, lc, hr, hF⟩ := h.rep
  obtain ⟨n, rfl⟩ := Int.eq_ofNat_of_zero_le hi0
  have hlt : n < ws.length := lt_of_at (by simpa using hx)
  have hc0 := hr.cell0
  have hcx := hr.word (i := n) (x := x) (by simpa using hx)
  clear hx hr
  go_enter Tryz.func61, Tryz.ntmps61
  go_wp2_with (first | (go_at_call 64; refine (check_ok _ _ _ _ _ _ _ hc0 (by omega) (by omega) (by omega) (by omega)).mono ?_; rintro e w' ⟨rfl, rfl⟩) | (go_at_call 115; refine (aload_any _ _ _ _ hcx).mono ?_; rintro e w' ⟨rfl, rfl⟩))
  go_ret2
  exact ⟨rfl, rfl⟩

set_option maxHeartbeats 400000 in
theorem peek_no (h : MemAt w b F ws log) (i : Int) (hi : i < 0 ∨ (ws.length : Int) ≤ i) :
    Calls Tryz.prog 61 #[.pointer (some ⟨b, 0, none⟩), .int .i64 i] w fun e w' => e = .returned (.tuple #[.int .u64 0, .bool false]) ∧ w = w' := by
  obtain ⟨bw, la, lc, hr, hF⟩ := h.rep
  have hc0 := hr.cell0
  clear hr
  have hne : (errOf 0 i ws.length != 0) = true := by
    have : ¬ errOf 0 i ws.length = 0 := fun e => by have := errOf_zero.1 e; omega
    simpa using this
  go_enter Tryz.func61, Tryz.ntmps61
  go_wp2_with (go_at_call 64; refine (check_any _ _ _ _ _ _ _ hc0).mono ?_; rintro e w' ⟨rfl, rfl⟩)
  go_ret2
  exact ⟨rfl, rfl⟩

set_option maxHeartbeats 400000 in
theorem len_ok (h : MemAt w b F ws log) :
    Calls Tryz.prog 99 #[.pointer (some ⟨b, 0, none⟩)] w fun e w' => e = .returned (.int .i64 log.length) ∧ w = w' := by
  obtain ⟨bw, la, lc, hr, hF⟩ := h.rep
  have hc1 := hr.cell1
  clear hr
  go_enter Tryz.func99, Tryz.ntmps99
  go_wp2
  go_ret
  exact ⟨rfl, rfl⟩
end
end Go.Proofs.YtjghenomeindcaaGreat
