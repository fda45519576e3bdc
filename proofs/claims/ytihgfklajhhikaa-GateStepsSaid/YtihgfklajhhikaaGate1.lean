/- gate: New, and Open of a new engine: contracts. -/
import Derived.Test.YtihgfklajhhikaaGate0
import Derived.Maps.OwnSet
namespace Go.Proofs.Ytihgfklajhhikaa
open Go.RowKit Go.Lf

theorem look_empty (w : World) (r : Nat) (hb : w.heap[r]? = some (.map #[] 0)) (k : Int) :
    (Instr.lookup 142 (.map (some r)) (.int .i64 k) true).run Try.prog w = .ok (.tuple #[.pointer none, .bool false]) w := by
  have ck : ∀ d : Nat, (Instr.checkKey true (d + 1) 3 (.int .i64 k)).run Try.prog w = .ok () w := fun d => by
    simp [Instr.checkKey, run_underlying Try.underlying3]
  simp [Instr.lookup, run_underlying Try.underlying142, MapKept.run_getObj_map hb, ck 9999, Instr.findKey, Instr.findNow, run_underlying Try.underlying3, Result.andThen]

/-- A new engine: its map of sections is empty. -/
structure GNewAt (w : World) (g r mb : Nat) (base : Int) (n : Nat) : Prop where
  head : w.heap[g]? = some (.cells #[.pointer (some ⟨mb, 0, none⟩), .int .i64 base, .int .i64 n, .map (some r)] 144 (0, 0))
  map : w.heap[r]? = some (.map #[] 0)
section
variable {w : World} {mb : Nat} {F : Nat → Prop} {ws : List Int} {log : List Acc}
def GNewTo (w : World) (mb : Nat) (base : Int) (n : Nat) (e : Ending) (w' : World) : Prop :=
  ∃ g r, e = .returned (.tuple #[.pointer (some ⟨g, 0, none⟩), .int .i64 0]) ∧ GNewAt w' g r mb base n ∧ Keep Nil w w' ∧ w.heap.size ≤ g ∧ w.heap.size ≤ r

set_option maxHeartbeats 1000000 in
theorem gnew_ok (h : MemAt w mb F ws log) (hl : ws.length ≤ 65536) (base : Int) (n : Nat) (he : pErr 4 16 base n ws.length = 0) :
    Calls Try.prog 19 #[.pointer (some ⟨mb, 0, none⟩), .int .i64 base, .int .i64 n] w (GNewTo w mb base n) := by
  obtain ⟨n0, n1, b0, b1⟩ := pErr_zero he
  obtain ⟨x, hx⟩ : ∃ x, ws[(base + 4 * n - 1).toNat]? = some x := ⟨_, List.getElem?_eq_getElem (by omega)⟩
  have HP := hid (peek_ok h (base + 4 * n - 1) x (by omega) hx)
  have HW := hid (@gwords_ok w n ⟨n0, n1⟩)
  have d1 : decide (base < 0) = false := decide_eq_false (by omega)
  have d2 : decide (65536 < base) = false := decide_eq_false (by omega)
  have b2 : base ≤ 65536 := by omega
  have hmm := @run_makeMap Try.prog
  clear h hx he hl b1
  go_enter Try.func19, Try.ntmps19
  go_wp2_with fail
  refine HW.out.mono ?_
  rintro e w' ⟨rfl, rfl⟩
  go_wp2_with fail
  refine HP.out.mono ?_
  rintro e w' ⟨rfl, rfl⟩
  go_wp2
  go_ret2
  have h1 := heap_alloc_new w (.map #[] 0)
  have h2 := heap_alloc_new (w.alloc (.map #[] 0)) (.cells #[.pointer (some ⟨mb, 0, none⟩), .int .i64 base, .int .i64 n, .map (some w.heap.size)] 144)
  rw [World.size_alloc] at h2
  exact ⟨_, _, rfl, ⟨h2, alloc_old h1 _⟩, ((Keep.refl Nil w).alloc _).alloc _, by omega, Nat.le_refl _⟩

def RGNewTo (w : World) (e : Ending) (w' : World) : Prop := ∃ g, e = .returned (.tuple #[.pointer (some ⟨g, 0, none⟩), .int .i64 0]) ∧ Keep Nil w w'
set_option maxHeartbeats 1000000 in
theorem rgnew_ok (h : RefAt w mb F ws log) (hl : ws.length ≤ 65536) (base : Int) (n : Nat) (he : pErr 4 16 base n ws.length = 0) :
    Calls Try.prog 20 #[.pointer (some ⟨mb, 0, none⟩), .int .i64 base, .int .i64 n] w (RGNewTo w) := by
  obtain ⟨n0, n1, b0, b1⟩ := pErr_zero he
  have HF := hid (fits_ok h base (4 * n) (by omega) (by omega) b0 b1)
  have HW := hid (@rgwords_ok w n ⟨n0, n1⟩)
  clear h he hl b1
  go_enter Try.func20, Try.ntmps20
  go_wp2_with fail
  refine HW.out.mono ?_
  rintro e w' ⟨rfl, rfl⟩
  go_wp2_with fail
  refine HF.out.mono ?_
  rintro e w' ⟨rfl, rfl⟩
  go_wp2
  go_ret2
  exact ⟨_, rfl, (Keep.refl Nil w).alloc _⟩

/-! Open. -/
set_option maxHeartbeats 400000 in
theorem gopen_nil : Calls Try.prog 22 #[.pointer none] w fun e w' => e = .returned (.slice none 0 0) ∧ w = w' := by
  go_enter Try.func22, Try.ntmps22
  go_wp2
  go_ret
  exact ⟨rfl, rfl⟩
set_option maxHeartbeats 2000000 in
theorem gopen_new {g r : Nat} {base : Int} {n : Nat} (h : GNewAt w g r mb base n) : Calls Try.prog 22 #[.pointer (some ⟨g, 0, none⟩)] w fun e w' => e = .returned (.slice none 0 0) ∧ w = w' := by
  have c3 : w.cell? ⟨g, 3, none⟩ = some (.map (some r)) := by rw [cell_of h.head]; rfl
  have hl := look_empty w r h.map
  clear h
  go_enter Try.func22, Try.ntmps22
  go_wp2
  go_loopw [3, 9] (fun v i wr => ∃ k : Nat, k ≤ 64 ∧ v = .slice none 0 0 ∧ i = .int .i64 k ∧ w = wr) (fun _ i _ => 64 - (intOf i).toNat)
  case atStart => exact ⟨0, by omega, by first | rfl | trivial, by first | rfl | trivial, by first | rfl | trivial⟩
  case round =>
    obtain ⟨k, hk, rfl, rfl, rfl⟩ := hrel
    by_cases hlt : k < 64
    · go_wp2
      go_roundw
      case rel => exact ⟨k + 1, by omega, by first | rfl | trivial, by first | rfl | trivial | go_num, by first | rfl | trivial⟩
      case measure => simp [intOf]; omega
    · obtain rfl : k = 64 := by omega
      go_wp2
      go_ret
      exact ⟨rfl, rfl⟩
end
end Go.Proofs.Ytihgfklajhhikaa
