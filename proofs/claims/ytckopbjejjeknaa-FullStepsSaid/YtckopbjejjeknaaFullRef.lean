/- leapfrogref16: New: contracts. -/
import Derived.Test.YtckopbjejjeknaaFull
import Derived.Test.YtckopbjejjeknaaFits
namespace Go.Proofs.Ytckopbjejjeknaa
open Go.RowKit Go.Lf
section
variable {w : World} {mb : Nat} {F : Nat → Prop} {ws : List Int} {log : List Acc}
set_option maxHeartbeats 1000000 in
theorem rfnew_err (h : RefAt w mb F ws log) (hl : ws.length ≤ 65536) (base n : Int) (he : fErr base n ws.length ≠ 0) :
    Calls Try.prog 18 #[.pointer (some ⟨mb, 0, none⟩), .int .i64 base, .int .i64 n] w fun e w' => e = .returned (.tuple #[.pointer none, .int .i64 (fErr base n ws.length)]) ∧ w = w' := by
  have H := hid h
  clear h
  by_cases hn : n < 1 ∨ 64 < n
  · rw [fErr_two hn]
    have hw := @rfwords_no w n hn
    have HW := hid hw
    clear hw hn he hl
    go_enter Try.func18, Try.ntmps18
    go_wp2_with fail
    refine HW.out.mono ?_
    rintro e w' ⟨rfl, rfl⟩
    go_wp2
    go_ret2
    exact ⟨rfl, rfl⟩
  · have h3 : base < 0 ∨ (ws.length : Int) < base + n := by
      apply Classical.byContradiction
      intro h'
      apply he
      unfold fErr
      rw [if_neg hn, if_neg h']
    rw [fErr_three hn h3]
    have hw := @rfwords_ok w n (by omega)
    have hf := fits_no H.out base n (by omega) (by omega) (by omega) h3
    have HW := hid hw
    have HF := hid hf
    clear hw hn he hl h3 hf
    go_enter Try.func18, Try.ntmps18
    go_wp2_with fail
    refine HW.out.mono ?_
    rintro e w' ⟨rfl, rfl⟩
    go_wp2_with fail
    refine HF.out.mono ?_
    rintro e w' ⟨rfl, rfl⟩
    go_wp2
    go_ret2
    exact ⟨rfl, rfl⟩

/-- The reference's slots: number, begun, there. -/
def slotCells : List (Int × Bool × Bool) → List Value := fun l => l.flatMap fun p => [.int .u64 p.1, .bool p.2.1, .bool p.2.2]
structure REngAt (w : World) (g sb mb : Nat) (base : Int) (sl : List (Int × Bool × Bool)) : Prop where
  head : w.heap[g]? = some (.cells #[.pointer (some ⟨mb, 0, none⟩), .int .i64 base, .slice (some ⟨sb, 0, none⟩) sl.length sl.length] 126 (0, 0))
  slots : w.heap[sb]? = some (.cells (slotCells sl).toArray 153 (0, 0))
  ne : g ≠ sb
theorem infoSlot : (Try.prog.info? 153).map (fun i => (i.zero, i.size, i.bytes)) = some (some (.agg #[.int .u64 0, .bool false, .bool false]), 3, 16) := by kernel_rfl
theorem slots_made (n : Nat) : madeCells (#[.int .u64 0, .bool false, .bool false] : Array Value) (n * 3) = (slotCells (List.replicate n (0, false, false))).toArray := by
  apply Array.ext'
  rw [madeCells, Array.toList_map, Array.toList_range]
  induction n with
  | zero => rfl
  | succ n ih =>
    have e : (n + 1) * 3 = n * 3 + 1 + 1 + 1 := by omega
    rw [e, List.range_succ, List.range_succ, List.range_succ, List.replicate_succ', List.map_append, List.map_append, List.map_append, ih]
    have a0 : n * 3 % 3 = 0 := by omega
    have a1 : (n * 3 + 1) % 3 = 1 := by omega
    have a2 : (n * 3 + 1 + 1) % 3 = 2 := by omega
    simp [slotCells, a0, a1, a2]
def RFNewTo (w : World) (mb : Nat) (base : Int) (n : Nat) (e : Ending) (w' : World) : Prop :=
  ∃ g sb, e = .returned (.tuple #[.pointer (some ⟨g, 0, none⟩), .int .i64 0]) ∧ REngAt w' g sb mb base (List.replicate n (0, false, false)) ∧ Keep Nil w w' ∧ w.heap.size ≤ g ∧ w.heap.size ≤ sb

set_option maxHeartbeats 1000000 in
theorem rfnew_ok (h : RefAt w mb F ws log) (hl : ws.length ≤ 65536) (base : Int) (n : Nat) (he : fErr base n ws.length = 0) :
    Calls Try.prog 18 #[.pointer (some ⟨mb, 0, none⟩), .int .i64 base, .int .i64 n] w (RFNewTo w mb base n) := by
  obtain ⟨n0, n1, b0, b1⟩ := fErr_zero he
  have HF := hid (fits_ok h base n n0 (by omega) b0 b1)
  have HW := hid (@rfwords_ok w n ⟨n0, n1⟩)
  clear h he hl b1
  go_enter Try.func18, Try.ntmps18
  go_wp2_with fail
  refine HW.out.mono ?_
  rintro e w' ⟨rfl, rfl⟩
  go_wp2_with fail
  refine HF.out.mono ?_
  rintro e w' ⟨rfl, rfl⟩
  go_wp2_with (at_make; refine wpList_mk _ rfl _ _ 124 rfl 153 _ 3 16 Try.underlying124 infoSlot _ _ (n : Int) rfl rfl ?p0 ?p1 ?p2 ?_)
  case p0 => omega
  case p1 => omega
  case p2 => omega
  intro w1 hh hk hz
  have HH := hid hh
  have HK := hid hk
  have HZ := hid hz
  clear hh hk hz
  go_wp2
  go_ret2
  have h2 := heap_alloc_new w1 (.cells #[.pointer (some ⟨mb, 0, none⟩), .int .i64 base, .slice (some ⟨w.heap.size, 0, none⟩) n n] 126)
  have h1 := HH.out
  rw [slots_made] at h1
  refine ⟨_, _, rfl, ⟨by rw [List.length_replicate]; exact h2, alloc_old h1 _, by have := HZ.out; omega⟩, HK.out.alloc _, by have := HZ.out; omega, Nat.le_refl _⟩
end
end Go.Proofs.Ytckopbjejjeknaa
