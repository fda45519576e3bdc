
/- gate: Words and New, beside the reference: contracts of what errs. -/
import Derived.Test.YtldjlcdccnnogaaGreatKit
import Derived.Test.YtldjlcdccnnogaaGreatBase
import Derived.Test.YtldjlcdccnnogaaGreatMem
import Derived.Maps.OwnSet
namespace Go.Proofs.YtldjlcdccnnogaaGreat
open Go.RowKit Go.Lf
section
variable {w : World}
set_option maxHeartbeats 400000 in
theorem gwords_no (n : Int) (h : n < 1 ∨ 16 < n) : Calls Tryz.prog 54 #[.int .i64 n] w fun e w' => e = .returned (.tuple #[.int .i64 0, .int .i64 2]) ∧ w = w' := by
  by_cases h1 : n < 1
  · have d1 : decide (n < 1) = true := decide_eq_true h1
    clear h h1
    go_enter Tryz.func54, Tryz.ntmps54
    go_wp2
    go_ret2
    exact ⟨rfl, rfl⟩
  · have d1 : decide (n < 1) = false := decide_eq_false h1
    have d2 : decide (16 < n) = true := decide_eq_true (by omega)
    clear h h1
    go_enter Tryz.func54, Tryz.ntmps54
    go_wp2
    go_ret2
    exact ⟨rfl, rfl⟩
set_option maxHeartbeats 400000 in
theorem gwords_ok (n : Int) (h : 1 ≤ n ∧ n ≤ 16) : Calls Tryz.prog 54 #[.int .i64 n] w fun e w' => e = .returned (.tuple #[.int .i64 (4 * n), .int .i64 0]) ∧ w = w' := by
  have d1 : decide (n < 1) = false := decide_eq_false (by omega)
  have d2 : decide (16 < n) = false := decide_eq_false (by omega)
  obtain ⟨n0, n1⟩ := h
  go_enter Tryz.func54, Tryz.ntmps54
  go_wp2
  go_ret2
  exact ⟨rfl, rfl⟩
/-! New. -/
set_option maxHeartbeats 400000 in
theorem gnew_nil (base n : Int) : Calls Tryz.prog 59 #[.pointer none, .int .i64 base, .int .i64 n] w fun e w' => e = .returned (.tuple #[.pointer none, .int .i64 1]) ∧ w = w' := by
  go_enter Tryz.func59, Tryz.ntmps59
  go_wp2
  go_ret2
  exact ⟨rfl, rfl⟩
variable {mb : Nat} {F : Nat → Prop} {ws : List Int} {log : List Acc}
set_option maxHeartbeats 1000000 in
theorem gnew_err (h : MemAt w mb F ws log) (_hl : ws.length ≤ 65536) (base n : Int) (he : pErr 4 16 base n ws.length ≠ 0) :
    Calls Tryz.prog 59 #[.pointer (some ⟨mb, 0, none⟩), .int .i64 base, .int .i64 n] w fun e w' => e = .returned (.tuple #[.pointer none, .int .i64 (pErr 4 16 base n ws.length)]) ∧ w = w' := by
  have H := hid h
  clear h
  by_cases hn : n < 1 ∨ 16 < n
  · rw [pErr_two hn]
    have hw := @gwords_no w n hn
    have HW := hid hw
    clear hw hn he
    go_enter Tryz.func59, Tryz.ntmps59
    go_wp2_with fail
    refine HW.out.mono ?_
    rintro e w' ⟨rfl, rfl⟩
    go_wp2
    go_ret2
    exact ⟨rfl, rfl⟩
  · have h3 : base < 0 ∨ (ws.length : Int) < base + 4 * n := by
      apply Classical.byContradiction
      intro h'
      apply he
      unfold pErr
      rw [if_neg hn, if_neg h']
    rw [pErr_three hn h3]
    have hw := @gwords_ok w n (by omega)
    have HW := hid hw
    by_cases h4 : base < 0
    · have d1 : decide (base < 0) = true := decide_eq_true h4
      clear hw hn he h3 h4
      go_enter Tryz.func59, Tryz.ntmps59
      go_wp2_with fail
      refine HW.out.mono ?_
      rintro e w' ⟨rfl, rfl⟩
      go_wp2
      go_ret2
      exact ⟨rfl, rfl⟩
    have d1 : decide (base < 0) = false := decide_eq_false h4
    by_cases h5 : 65536 < base
    · have d2 : decide (65536 < base) = true := decide_eq_true h5
      clear hw hn he h3 h4 h5
      go_enter Tryz.func59, Tryz.ntmps59
      go_wp2_with fail
      refine HW.out.mono ?_
      rintro e w' ⟨rfl, rfl⟩
      go_wp2
      go_ret2
      exact ⟨rfl, rfl⟩
    have d2 : decide (65536 < base) = false := decide_eq_false h5
    have hp := peek_no H.out (base + 4 * n - 1) (by omega)
    have HP := hid hp
    have n0 : 1 ≤ n := by omega
    have n1 : n ≤ 16 := by omega
    clear hw hn he h3 hp
    go_enter Tryz.func59, Tryz.ntmps59
    go_wp2_with fail
    refine HW.out.mono ?_
    rintro e w' ⟨rfl, rfl⟩
    go_wp2_with fail
    refine HP.out.mono ?_
    rintro e w' ⟨rfl, rfl⟩
    go_wp2
    go_ret2
    exact ⟨rfl, rfl⟩

end
end Go.Proofs.YtldjlcdccnnogaaGreat

/-! gate: New, and Open of a new engine: contracts. -/
namespace Go.Proofs.YtldjlcdccnnogaaGreat
open Go.RowKit Go.Lf

theorem look_empty (w : World) (r : Nat) (hb : w.heap[r]? = some (.map #[] 0)) (k : Int) :
    (Instr.lookup 200 (.map (some r)) (.int .i64 k) true).run Tryz.prog w = .ok (.tuple #[.pointer none, .bool false]) w := by
  have ck : ∀ d : Nat, (Instr.checkKey true (d + 1) 3 (.int .i64 k)).run Tryz.prog w = .ok () w := fun d => by
    simp [Instr.checkKey, run_underlying Tryz.underlying3]
  simp [Instr.lookup, run_underlying Tryz.underlying200, MapKept.run_getObj_map hb, ck 9999, Instr.findKey, Instr.findNow, run_underlying Tryz.underlying3, Result.andThen]

/-- A new engine: its map of sections is empty. -/
structure GNewAt (w : World) (g r mb : Nat) (base : Int) (n : Nat) : Prop where
  head : w.heap[g]? = some (.cells #[.pointer (some ⟨mb, 0, none⟩), .int .i64 base, .int .i64 n, .map (some r)] 202 (0, 0))
  map : w.heap[r]? = some (.map #[] 0)
section
variable {w : World} {mb : Nat} {F : Nat → Prop} {ws : List Int} {log : List Acc}
def GNewTo (w : World) (mb : Nat) (base : Int) (n : Nat) (e : Ending) (w' : World) : Prop :=
  ∃ g r, e = .returned (.tuple #[.pointer (some ⟨g, 0, none⟩), .int .i64 0]) ∧ GNewAt w' g r mb base n ∧ Keep Nil w w' ∧ w.heap.size ≤ g ∧ w.heap.size ≤ r

set_option maxHeartbeats 1000000 in
theorem gnew_ok (h : MemAt w mb F ws log) (hl : ws.length ≤ 65536) (base : Int) (n : Nat) (he : pErr 4 16 base n ws.length = 0) :
    Calls Tryz.prog 59 #[.pointer (some ⟨mb, 0, none⟩), .int .i64 base, .int .i64 n] w (GNewTo w mb base n) := by
  obtain ⟨n0, n1, b0, b1⟩ := pErr_zero he
  obtain ⟨x, hx⟩ : ∃ x, ws[(base + 4 * n - 1).toNat]? = some x := ⟨_, List.getElem?_eq_getElem (by omega)⟩
  have HP := hid (peek_ok h (base + 4 * n - 1) x (by omega) hx)
  have HW := hid (@gwords_ok w n ⟨n0, n1⟩)
  have d1 : decide (base < 0) = false := decide_eq_false (by omega)
  have d2 : decide (65536 < base) = false := decide_eq_false (by omega)
  have b2 : base ≤ 65536 := by omega
  have hmm := @run_makeMap Tryz.prog
  clear h hx he hl b1
  go_enter Tryz.func59, Tryz.ntmps59
  go_wp2_with fail
  refine HW.out.mono ?_
  rintro e w' ⟨rfl, rfl⟩
  go_wp2_with fail
  refine HP.out.mono ?_
  rintro e w' ⟨rfl, rfl⟩
  go_wp2
  go_ret2
  have h1 := heap_alloc_new w (.map #[] 0)
  have h2 := heap_alloc_new (w.alloc (.map #[] 0)) (.cells #[.pointer (some ⟨mb, 0, none⟩), .int .i64 base, .int .i64 n, .map (some w.heap.size)] 202)
  rw [World.size_alloc] at h2
  exact ⟨_, _, rfl, ⟨h2, alloc_old h1 _⟩, ((Keep.refl Nil w).alloc _).alloc _, by omega, Nat.le_refl _⟩

def RGNewTo (w : World) (e : Ending) (w' : World) : Prop := ∃ g, e = .returned (.tuple #[.pointer (some ⟨g, 0, none⟩), .int .i64 0]) ∧ Keep Nil w w'
/-! Open. -/
end
end Go.Proofs.YtldjlcdccnnogaaGreat
