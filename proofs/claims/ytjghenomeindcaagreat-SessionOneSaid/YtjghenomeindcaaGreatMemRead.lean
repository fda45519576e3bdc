/- words.Mem: Words and Log: contracts. -/
import Derived.Test.YtjghenomeindcaaGreatMemNew
namespace Go.Proofs.YtjghenomeindcaaGreat
open Go.RowKit Go.Lf

/-- A new row is returned: n elements of type T, the cells cs. -/
def RowTo (w : World) (T : TypeId) (n : Nat) (cs : List Value) (e : Ending) (w' : World) : Prop :=
  ∃ g, e = .returned (.slice (some ⟨g, 0, none⟩) n n) ∧ w'.heap[g]? = some (.cells cs.toArray T (0, 0)) ∧ w.heap.size ≤ g ∧ Keep Nil w w'

set_option maxHeartbeats 400000 in
theorem words_nil (w : World) : Calls Tryz.prog 106 #[.pointer none] w fun e w' => e = .returned (.slice none 0 0) ∧ w = w' := by
  go_enter Tryz.func106, Tryz.ntmps106
  go_wp2
  go_ret
  exact ⟨rfl, rfl⟩

section
variable {b : Nat} {F : Nat → Prop} {ws : List Int} {log : List Acc} {w : World}

set_option maxHeartbeats 1000000 in
theorem words_ok (h : MemAt w b F ws log) (hn : ws.length ≤ 1000000000) :
    Calls Tryz.prog 106 #[.pointer (some ⟨b, 0, none⟩)] w (RowTo w 54 ws.length (u64s ws)) := by
  obtain ⟨bw, la, lc, hr, hF⟩ := h.rep
  have hc0 := hr.cell0
  have HR := hid hr
  clear hr
  go_enter Tryz.func106, Tryz.ntmps106
  go_wp2_with (at_make; refine wpList_mk _ rfl _ _ 37 rfl 54 _ 1 8 Tryz.underlying37 infoU64 _ _ (ws.length : Int) rfl rfl ?p0 ?p1 ?p2 ?_)
  case p0 => omega
  case p1 => omega
  case p2 => omega
  intro w1 hh hk hz
  have hrow : w1.heap[w.heap.size]? = some (.cells (u64s (filled ws 0)).toArray 54 (0, 0)) := by
    rw [hh, filled_zero]; simp [u64s, made_one]
  have hc01 : w1.cell? ⟨b, 0, none⟩ = some (.slice (some ⟨bw, 0, none⟩) ws.length ws.length) := hk.cell hc0 (fun h => h)
  have HROW := hid hrow
  have HK := hid hk
  have HZ := hid hz
  clear hh hk hz hrow hc0
  go_wp2
  go_loopw [18] (fun i wr => ∃ k : Nat, k ≤ ws.length ∧ i = .int .i64 k ∧ wr.heap[w.heap.size]? = some (.cells (u64s (filled ws k)).toArray 54 (0, 0)) ∧ Keep Nil w wr) (fun i _ => ws.length - (intOf i).toNat)
  case atStart => exact ⟨0, Nat.zero_le _, rfl, HROW.out, HK.out⟩
  case round =>
    obtain ⟨k, hk, rfl, hr, hkk⟩ := hrel
    have hcm : wr.cell? ⟨b, 0, none⟩ = some (.slice (some ⟨bw, 0, none⟩) ws.length ws.length) := hkk.cell HR.out.cell0 (fun h => h)
    have HQ := hid hr
    have HKK := hid hkk
    clear hr hkk hc01
    by_cases hlt : k < ws.length
    · obtain ⟨x, hx⟩ : ∃ x, ws[k]? = some x := ⟨_, List.getElem?_eq_getElem hlt⟩
      have hcx : wr.cell? ⟨bw, k, none⟩ = some (.int .u64 x) := HKK.out.cell (HR.out.word hx) (fun h => h)
      have hcz : wr.cell? ⟨w.heap.size, k, none⟩ = some (.int .u64 0) := by rw [cell_of HQ.out]; simpa using u64s_at (filled_at ws k hlt)
      have hfz : wr.frozen? ⟨w.heap.size, k, none⟩ = false := free_of HQ.out k
      have HX := hid hx
      clear hx
      go_wp2_with (go_at_call 115; refine (aload_any _ _ _ _ hcx).mono ?_; rintro e w' ⟨rfl, rfl⟩)
      go_roundw
      case rel =>
        refine ⟨k + 1, by omega, by go_num, ?_, ?_⟩
        · rw [set_same HQ.out, ← filled_set ws k x HX.out, ← u64s_set]; simp
        · exact Keep.setCell HKK.out (.inr (Nat.le_refl _)) _
      case measure => simp [intOf]; omega
    · obtain rfl : k = ws.length := by omega
      go_wp2
      go_ret
      rw [filled_all] at HQ
      exact ⟨w.heap.size, rfl, HQ.out, Nat.le_refl _, HKK.out⟩

set_option maxHeartbeats 400000 in
theorem log_none (h : MemAt w b F ws log) (i : Int) (hi : i < 0 ∨ (log.length : Int) ≤ i) :
    Calls Tryz.prog 48 #[.pointer (some ⟨b, 0, none⟩), .int .i64 i] w fun e w' => e = .returned (.slice none 0 0) ∧ w = w' := by
  rcases Int.lt_or_le i 0 with hi0 | hi0
  · clear hi
    go_enter Tryz.func48, Tryz.ntmps48
    go_wp2_with (go_at_call 99; refine (len_ok h).mono ?_; rintro e w' ⟨rfl, rfl⟩)
    go_ret
    exact ⟨rfl, rfl⟩
  · have hi1 : (log.length : Int) ≤ i := by omega
    have hi2 : ¬ i < 0 := by omega
    clear hi
    go_enter Tryz.func48, Tryz.ntmps48
    go_wp2_with (go_at_call 99; refine (len_ok h).mono ?_; rintro e w' ⟨rfl, rfl⟩)
    go_ret
    exact ⟨rfl, rfl⟩

set_option maxHeartbeats 400000 in
theorem log_ok (h : MemAt w b F ws log) (i : Int) (hi0 : 0 ≤ i) (hi1 : i < (log.length : Int)) (hn : log.length < 1000000000000) :
    Calls Tryz.prog 48 #[.pointer (some ⟨b, 0, none⟩), .int .i64 i] w (RowTo w 202 (log.length - i.toNat) (logCells (log.drop i.toNat))) := by
  obtain ⟨k, rfl⟩ := Int.eq_ofNat_of_zero_le hi0
  rw [Int.toNat_natCast]
  have h' := h
  obtain ⟨bw, la, lc, hr, hF⟩ := h'.rep
  obtain ⟨g, rfl, hgc⟩ : ∃ g, la = some ⟨g, 0, none⟩ ∧ ∀ j u, (logCells log)[j]? = some u → w.cell? ⟨g, j, none⟩ = some u := by
    rcases hr.lrow.2 with ⟨_, h0⟩ | ⟨g, cap, cur, hv, _⟩
    · omega
    · simp only [Value.slice.injEq] at hv
      obtain ⟨rfl, -, rfl⟩ := hv
      refine ⟨g, rfl, fun j u hu => ?_⟩
      rw [← hu]
      exact hr.lrow.cellAt j (by have := lt_of_at hu; rw [length_logCells] at this; exact this)
  have hcap : log.length ≤ lc := by
    rcases hr.lrow.2 with ⟨hv, _⟩ | ⟨g', cap, cur, hv, _, _, hle, _⟩
    · simp at hv
    · simp only [Value.slice.injEq] at hv; omega
  have hc1 := hr.cell1
  have HG := hid hgc
  clear hr hgc
  go_enter Tryz.func48, Tryz.ntmps48
  go_wp2_with (first | (go_at_call 99; refine (len_ok h).mono ?_; rintro e w' ⟨rfl, rfl⟩) | (at_make; refine wpList_mk _ rfl _ _ 102 rfl 202 _ 6 48 Tryz.underlying102 infoAcc _ _ ((log.length : Int) - k) rfl rfl ?p0 ?p1 ?p2 ?_))
  case p0 => omega
  case p1 => omega
  case p2 => omega
  intro w1 hh hk hz
  have hc11 := hk.cell hc1 (fun h => h)
  have HH := hid hh
  have HK := hid hk
  have HZ := hid hz
  clear hh hk hz hc1
  go_wp2_with (with_reducible refine wpList_copyAll _ rfl (.tmp 22) (.tmp 28) 102 102 rfl 202 6 Tryz.underlying102 ?q1 w.heap.size (log.length - k) (log.length - k) (.slice (some ⟨g, k * 6, none⟩) (log.length - k) (lc - k)) ?q2 ?q3 _ _ HH.out ?q4 (logCells (log.drop k)) ?q5 ?q6 ?q7 ?_)
  case q1 => kernel_rfl
  case q2 => rfl
  case q3 => rfl
  case q4 => rw [size_madeCells]
  case q5 => exact ⟨_, _, rfl, by rw [length_logCells, List.length_drop], .inr <| .inl ⟨_, _, rfl, fun j u hu => HK.out.cell (HG.out _ _ (logCells_drop hu)) (fun h => h)⟩⟩
  case q6 => omega
  case q7 => exact logCells_one _
  intro w2 h2 k2
  have H2 := hid h2
  have K2 := hid k2
  clear h2 k2
  go_wp2
  go_ret
  exact ⟨w.heap.size, rfl, H2.out, Nat.le_refl _, HK.out.trans K2.out (fun j hj e => by omega)⟩
end
end Go.Proofs.YtjghenomeindcaaGreat
