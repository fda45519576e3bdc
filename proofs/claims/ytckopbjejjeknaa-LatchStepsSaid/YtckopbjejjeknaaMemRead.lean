
/- words.Mem: Words and Log: contracts. -/
import Derived.Test.YtckopbjejjeknaaMemNew
namespace Go.Proofs.Ytckopbjejjeknaa
open Go.RowKit Go.Lf

/-- A new row is returned: n elements of type T, the cells cs. -/
def RowTo (w : World) (T : TypeId) (n : Nat) (cs : List Value) (e : Ending) (w' : World) : Prop :=
  ∃ g, e = .returned (.slice (some ⟨g, 0, none⟩) n n) ∧ w'.heap[g]? = some (.cells cs.toArray T (0, 0)) ∧ w.heap.size ≤ g ∧ Keep Nil w w'

section
variable {b : Nat} {F : Nat → Prop} {ws : List Int} {log : List Acc} {w : World}

set_option maxHeartbeats 400000 in
theorem log_none (h : MemAt w b F ws log) (i : Int) (hi : i < 0 ∨ (log.length : Int) ≤ i) :
    Calls Try.prog 34 #[.pointer (some ⟨b, 0, none⟩), .int .i64 i] w fun e w' => e = .returned (.slice none 0 0) ∧ w = w' := by
  rcases Int.lt_or_le i 0 with hi0 | hi0
  · clear hi
    go_enter Try.func34, Try.ntmps34
    go_wp2_with (go_at_call 19; refine (len_ok h).mono ?_; rintro e w' ⟨rfl, rfl⟩)
    go_ret
    exact ⟨rfl, rfl⟩
  · have hi1 : (log.length : Int) ≤ i := by omega
    have hi2 : ¬ i < 0 := by omega
    clear hi
    go_enter Try.func34, Try.ntmps34
    go_wp2_with (go_at_call 19; refine (len_ok h).mono ?_; rintro e w' ⟨rfl, rfl⟩)
    go_ret
    exact ⟨rfl, rfl⟩

set_option maxHeartbeats 400000 in
theorem log_ok (h : MemAt w b F ws log) (i : Int) (hi0 : 0 ≤ i) (hi1 : i < (log.length : Int)) (hn : log.length < 1000000000000) :
    Calls Try.prog 34 #[.pointer (some ⟨b, 0, none⟩), .int .i64 i] w (RowTo w 142 (log.length - i.toNat) (logCells (log.drop i.toNat))) := by
  obtain ⟨k, rfl⟩ := Int.eq_ofNat_of_zero_le hi0
  rw [Int.toNat_natCast]
  have h' := h
  obtain ⟨bw, la, lc, hr, hF⟩ := h'.rep
  obtain ⟨g, rfl, hgc⟩ : ∃ g, la = some ⟨g, 0, none⟩ ∧ ∀ j u, (logCells log)[j]? = some u → w.cell? ⟨g, j, none⟩ = some u := by
    rcases hr.lrow.2 with ⟨_, h0⟩ | ⟨g, cap, cur, hv, _⟩
    · omega
    · simp only [Value.slice.injEq] at hv
      obtain ⟨rfl, -, rfl⟩ := hv
      refine ⟨g, rfl, fun j u hu => ?_⟩
      rw [← hu]
      exact hr.lrow.cellAt j (by have := lt_of_at hu; rw [length_logCells] at this; exact this)
  have hcap : log.length ≤ lc := by
    rcases hr.lrow.2 with ⟨hv, _⟩ | ⟨g', cap, cur, hv, _, _, hle, _⟩
    · simp at hv
    · simp only [Value.slice.injEq] at hv; omega
  have hc1 := hr.cell1
  have HG := hid hgc
  clear hr hgc
  go_enter Try.func34, Try.ntmps34
  go_wp2_with (first | (go_at_call 19; refine (len_ok h).mono ?_; rintro e w' ⟨rfl, rfl⟩) | (at_make; refine wpList_mk _ rfl _ _ 69 rfl 142 _ 6 48 Try.underlying69 infoAcc _ _ ((log.length : Int) - k) rfl rfl ?p0 ?p1 ?p2 ?_))
  case p0 => omega
  case p1 => omega
  case p2 => omega
  intro w1 hh hk hz
  have hc11 := hk.cell hc1 (fun h => h)
  have HH := hid hh
  have HK := hid hk
  have HZ := hid hz
  clear hh hk hz hc1
  go_wp2_with (with_reducible refine wpList_copyAll _ rfl (.tmp 22) (.tmp 28) 69 69 rfl 142 6 Try.underlying69 ?q1 w.heap.size (log.length - k) (log.length - k) (.slice (some ⟨g, k * 6, none⟩) (log.length - k) (lc - k)) ?q2 ?q3 _ _ HH.out ?q4 (logCells (log.drop k)) ?q5 ?q6 ?q7 ?_)
  case q1 => kernel_rfl
  case q2 => rfl
  case q3 => rfl
  case q4 => rw [size_madeCells]
  case q5 => exact ⟨_, _, rfl, by rw [length_logCells, List.length_drop], .inr <| .inl ⟨_, _, rfl, fun j u hu => HK.out.cell (HG.out _ _ (logCells_drop hu)) (fun h => h)⟩⟩
  case q6 => omega
  case q7 => exact logCells_one _
  intro w2 h2 k2
  have H2 := hid h2
  have K2 := hid k2
  clear h2 k2
  go_wp2
  go_ret
  exact ⟨w.heap.size, rfl, H2.out, Nat.le_refl _, HK.out.trans K2.out (fun j hj e => by omega)⟩
end
end Go.Proofs.Ytckopbjejjeknaa
