
/- gate: New, and Open of a new engine: contracts. -/
import Derived.Test.YtjghenomeindcaaGreatGate0
import Derived.Maps.OwnSet
namespace Go.Proofs.YtjghenomeindcaaGreat
open Go.RowKit Go.Lf

theorem look_empty (w : World) (r : Nat) (hb : w.heap[r]? = some (.map #[] 0)) (k : Int) :
    (Instr.lookup 274 (.map (some r)) (.int .i64 k) true).run Tryz.prog w = .ok (.tuple #[.pointer none, .bool false]) w := by
  have ck : ∀ d : Nat, (Instr.checkKey true (d + 1) 3 (.int .i64 k)).run Tryz.prog w = .ok () w := fun d => by
    simp [Instr.checkKey, run_underlying Tryz.underlying3]
  simp [Instr.lookup, run_underlying Tryz.underlying274, MapKept.run_getObj_map hb, ck 9999, Instr.findKey, Instr.findNow, run_underlying Tryz.underlying3, Result.andThen]

/-- A new engine: its map of sections is empty. -/
structure GNewAt (w : World) (g r mb : Nat) (base : Int) (n : Nat) : Prop where
  head : w.heap[g]? = some (.cells #[.pointer (some ⟨mb, 0, none⟩), .int .i64 base, .int .i64 n, .map (some r)] 276 (0, 0))
  map : w.heap[r]? = some (.map #[] 0)
section
variable {w : World} {mb : Nat} {F : Nat → Prop} {ws : List Int} {log : List Acc}
def GNewTo (w : World) (mb : Nat) (base : Int) (n : Nat) (e : Ending) (w' : World) : Prop :=
  ∃ g r, e = .returned (.tuple #[.pointer (some ⟨g, 0, none⟩), .int .i64 0]) ∧ GNewAt w' g r mb base n ∧ Keep Nil w w' ∧ w.heap.size ≤ g ∧ w.heap.size ≤ r

set_option maxHeartbeats 1000000 in
theorem gnew_ok (h : MemAt w mb F ws log) (hl : ws.length ≤ 65536) (base : Int) (n : Nat) (he : pErr 4 16 base n ws.length = 0) :
    Calls Tryz.prog 120 #[.pointer (some ⟨mb, 0, none⟩), .int .i64 base, .int .i64 n] w (GNewTo w mb base n) := by
  obtain ⟨n0, n1, b0, b1⟩ := pErr_zero he
  obtain ⟨x, hx⟩ : ∃ x, ws[(base + 4 * n - 1).toNat]? = some x := ⟨_, List.getElem?_eq_getElem (by omega)⟩
  have HP := hid (peek_ok h (base + 4 * n - 1) x (by omega) hx)
  have HW := hid (@gwords_ok w n ⟨n0, n1⟩)
  have d1 : decide (base < 0) = false := decide_eq_false (by omega)
  have d2 : decide (65536 < base) = false := decide_eq_false (by omega)
  have b2 : base ≤ 65536 := by omega
  have hmm := @run_makeMap Tryz.prog
  clear h hx he hl b1
  go_enter Tryz.func120, Tryz.ntmps120
  go_wp2_with fail
  refine HW.out.mono ?_
  rintro e w' ⟨rfl, rfl⟩
  go_wp2_with fail
  refine HP.out.mono ?_
  rintro e w' ⟨rfl, rfl⟩
  go_wp2
  go_ret2
  have h1 := heap_alloc_new w (.map #[] 0)
  have h2 := heap_alloc_new (w.alloc (.map #[] 0)) (.cells #[.pointer (some ⟨mb, 0, none⟩), .int .i64 base, .int .i64 n, .map (some w.heap.size)] 276)
  rw [World.size_alloc] at h2
  exact ⟨_, _, rfl, ⟨h2, alloc_old h1 _⟩, ((Keep.refl Nil w).alloc _).alloc _, by omega, Nat.le_refl _⟩

def RGNewTo (w : World) (e : Ending) (w' : World) : Prop := ∃ g, e = .returned (.tuple #[.pointer (some ⟨g, 0, none⟩), .int .i64 0]) ∧ Keep Nil w w'
set_option maxHeartbeats 1000000 in
theorem rgnew_ok (h : RefAt w mb F ws log) (hl : ws.length ≤ 65536) (base : Int) (n : Nat) (he : pErr 4 16 base n ws.length = 0) :
    Calls Tryz.prog 168 #[.pointer (some ⟨mb, 0, none⟩), .int .i64 base, .int .i64 n] w (RGNewTo w) := by
  obtain ⟨n0, n1, b0, b1⟩ := pErr_zero he
  have HF := hid (fits_ok h base (4 * n) (by omega) (by omega) b0 b1)
  have HW := hid (@rgwords_ok w n ⟨n0, n1⟩)
  clear h he hl b1
  go_enter Tryz.func168, Tryz.ntmps168
  go_wp2_with fail
  refine HW.out.mono ?_
  rintro e w' ⟨rfl, rfl⟩
  go_wp2_with fail
  refine HF.out.mono ?_
  rintro e w' ⟨rfl, rfl⟩
  go_wp2
  go_ret2
  exact ⟨_, rfl, (Keep.refl Nil w).alloc _⟩

/-! Open. -/
end
end Go.Proofs.YtjghenomeindcaaGreat
