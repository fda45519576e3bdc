/- prcu.Words and prcu.New. -/
import Derived.Test.YtldjlcdccnnogaaGreatPrE
import Derived.Test.YtldjlcdccnnogaaGreatPrF
import Derived.Test.YtldjlcdccnnogaaGreatPrG
set_option linter.unusedVariables false
set_option linter.unusedSimpArgs false
namespace Go.Proofs.YtldjlcdccnnogaaGreat
open Go.RowKit Go.Lf
section
variable {w : World} {mb : Nat} {F : Nat → Prop} {ws : List Int} {log : List Acc}
set_option maxHeartbeats 1000000 in
theorem prwords_full (n : Nat) (h0 : 1 ≤ n) (h1 : n ≤ 6) : Calls Tryz.prog 25 #[.int .u8 1, .int .i64 n, .int .i64 0] w fun e w' => e = .returned (.tuple #[.int .i64 (((n : Nat) : Int)), .int .i64 0]) ∧ w = w' := by
  have d1 : decide ((n : Int) < 1) = false := decide_eq_false (by omega)
  have d2 : decide ((64 : Int) < (n : Int)) = false := decide_eq_false (by omega)
  have d3 : decide (n < 1) = false := decide_eq_false (by omega)
  have d4 : decide (64 < n) = false := decide_eq_false (by omega)
  have d5 : decide (n = 0) = false := decide_eq_false (by omega)
  have HW := hid (@fwords_ok w (n : Int) ⟨by omega, by omega⟩)
  clear h0 h1
  go_enter Tryz.func25, Tryz.ntmps25
  go_wp2_with fail
  refine HW.out.mono ?_
  rintro e w' ⟨rfl, rfl⟩
  go_wp2
  go_ret2
  exact ⟨rfl, rfl⟩
set_option maxHeartbeats 1000000 in
theorem prwords_each (n : Nat) (h0 : 1 ≤ n) (h1 : n ≤ 6) : Calls Tryz.prog 25 #[.int .u8 2, .int .i64 n, .int .i64 0] w fun e w' => e = .returned (.tuple #[.int .i64 (2 * ((n : Nat) : Int)), .int .i64 0]) ∧ w = w' := by
  have d1 : decide ((n : Int) < 1) = false := decide_eq_false (by omega)
  have d2 : decide ((64 : Int) < (n : Int)) = false := decide_eq_false (by omega)
  have d3 : decide (n < 1) = false := decide_eq_false (by omega)
  have d4 : decide (64 < n) = false := decide_eq_false (by omega)
  have d5 : decide (n = 0) = false := decide_eq_false (by omega)
  have HW := hid (@ewords_ok w (n : Int) ⟨by omega, by omega⟩)
  clear h0 h1
  go_enter Tryz.func25, Tryz.ntmps25
  go_wp2_with fail
  refine HW.out.mono ?_
  rintro e w' ⟨rfl, rfl⟩
  go_wp2
  go_ret2
  exact ⟨rfl, rfl⟩
set_option maxHeartbeats 1000000 in
theorem prwords_gate (n : Nat) (h0 : 1 ≤ n) (h1 : n ≤ 6) (nb : Nat) (hb0 : 1 ≤ nb) (hb : nb ≤ 4) : Calls Tryz.prog 25 #[.int .u8 3, .int .i64 n, .int .i64 (nb : Int)] w fun e w' => e = .returned (.tuple #[.int .i64 (4 * ((nb : Nat) : Int)), .int .i64 0]) ∧ w = w' := by
  have d1 : decide ((n : Int) < 1) = false := decide_eq_false (by omega)
  have d2 : decide ((64 : Int) < (n : Int)) = false := decide_eq_false (by omega)
  have d3 : decide (n < 1) = false := decide_eq_false (by omega)
  have d4 : decide (64 < n) = false := decide_eq_false (by omega)
  have d5 : decide (n = 0) = false := decide_eq_false (by omega)
  have HW := hid (@gwords_ok w (nb : Int) ⟨by omega, by omega⟩)
  clear h0 h1 hb0 hb
  go_enter Tryz.func25, Tryz.ntmps25
  go_wp2_with fail
  refine HW.out.mono ?_
  rintro e w' ⟨rfl, rfl⟩
  go_wp2
  go_ret2
  exact ⟨rfl, rfl⟩
set_option maxHeartbeats 2000000 in
theorem prnew_full (h : MemAt w mb F ws log) (hl : ws.length ≤ 65536) (n : Nat) (h0 : 1 ≤ n) (h1 : n ≤ 6) (hws : n ≤ ws.length) : Calls Tryz.prog 27 #[pb mb, .int .u8 1, .int .i64 0, .int .i64 n, .int .i64 0] w fun e w' => ∃ p, e = .returned (.tuple #[pb p, .int .i64 0]) ∧ p = w.heap.size ∧ Keep Nil w w' ∧ ∃ g nb bb, EngAt w' g nb bb mb ((0 : Nat) : Int) (List.replicate n 0) (List.replicate n false) ∧ w'.heap[p]? = some (prHO_full g n) ∧ w.heap.size < g ∧ w.heap.size < nb ∧ w.heap.size < bb := by
  have HW := hid (@prwords_full w n h0 h1)
  have K0 : Keep Nil w (w.alloc (.cells #[.nilIface, .int .u8 1, .int .i64 n] 142 (0, 0))) := (Keep.refl _ _).alloc _
  have o0 := heap_alloc_new w (.cells #[.nilIface, .int .u8 1, .int .i64 n] 142 (0, 0))
  have HN := hid (fnew_ok (h.keep K0 (fun _ _ e => e)) hl ((0 : Nat) : Int) n (by unfold fErr; rw [if_neg (by omega), if_neg (by omega)]))
  have z0 : (w.alloc (.cells #[.nilIface, .int .u8 1, .int .i64 n] 142 (0, 0))).heap.size = w.heap.size + 1 := by simp
  have KK := hid K0
  have O0 := hid o0
  have Z0 := hid z0
  clear h hl h0 h1 hws K0 o0 z0
  go_enter Tryz.func27, Tryz.ntmps27
  go_wp2_with fail
  refine HW.out.mono ?_
  rintro e w' ⟨rfl, rfl⟩
  go_wp2_with fail
  refine HN.out.mono ?_
  rintro e w1 ⟨g, a, b, rfl, hN, kN, l1, l2, l3⟩
  have z0 := Z0.out
  rw [z0] at l1 l2 l3
  have o1 := kN.at O0.out (fun e => e)
  have c0 : w1.cell? ⟨w.heap.size, 0, none⟩ = some .nilIface := by rw [cell_of o1]; rfl
  have f0 := free_of o1 0
  have kS : Keep (fun k => k = w.heap.size) w1 (w1.setCell ⟨w.heap.size, 0, none⟩ (heldV_full g)) := Keep.setCell (S := fun k => k = w.heap.size) (Keep.refl _ _) (.inl rfl) _
  have FIN := hid (And.intro (set_same o1 (i := 0) (heldV_full g)) (And.intro ((KK.out.trans kN (fun _ _ e => e)).trans kS (fun k hk e => by omega)) (hN.keep kS (by omega) (by omega) (by omega))))
  clear HW HN KK O0 kN o1 kS hN z0
  go_wp2
  go_ret2
  obtain ⟨q1, q2, q3⟩ := FIN.out
  exact ⟨_, rfl, rfl, q2, g, a, b, q3, q1, by omega, by omega, by omega⟩
set_option maxHeartbeats 2000000 in
theorem prnew_each (h : MemAt w mb F ws log) (hl : ws.length ≤ 65536) (n : Nat) (h0 : 1 ≤ n) (h1 : n ≤ 6) (hws : 2 * n ≤ ws.length) : Calls Tryz.prog 27 #[pb mb, .int .u8 2, .int .i64 0, .int .i64 n, .int .i64 0] w fun e w' => ∃ p, e = .returned (.tuple #[pb p, .int .i64 0]) ∧ p = w.heap.size ∧ Keep Nil w w' ∧ ∃ g sb cb, EEngAt w' g sb cb mb ((0 : Nat) : Int) (List.replicate n (0, false)) ∧ w'.heap[p]? = some (prHO_each g n) ∧ w.heap.size < g ∧ w.heap.size < sb ∧ w.heap.size < cb := by
  have HW := hid (@prwords_each w n h0 h1)
  have K0 : Keep Nil w (w.alloc (.cells #[.nilIface, .int .u8 2, .int .i64 n] 142 (0, 0))) := (Keep.refl _ _).alloc _
  have o0 := heap_alloc_new w (.cells #[.nilIface, .int .u8 2, .int .i64 n] 142 (0, 0))
  have HN := hid (enew_ok (h.keep K0 (fun _ _ e => e)) hl ((0 : Nat) : Int) n (by unfold pErr; rw [if_neg (by omega), if_neg (by omega)]))
  have z0 : (w.alloc (.cells #[.nilIface, .int .u8 2, .int .i64 n] 142 (0, 0))).heap.size = w.heap.size + 1 := by simp
  have KK := hid K0
  have O0 := hid o0
  have Z0 := hid z0
  clear h hl h0 h1 hws K0 o0 z0
  go_enter Tryz.func27, Tryz.ntmps27
  go_wp2_with fail
  refine HW.out.mono ?_
  rintro e w' ⟨rfl, rfl⟩
  go_wp2_with fail
  refine HN.out.mono ?_
  rintro e w1 ⟨g, a, b, rfl, hN, kN, l1, l2, l3⟩
  have z0 := Z0.out
  rw [z0] at l1 l2 l3
  have o1 := kN.at O0.out (fun e => e)
  have c0 : w1.cell? ⟨w.heap.size, 0, none⟩ = some .nilIface := by rw [cell_of o1]; rfl
  have f0 := free_of o1 0
  have kS : Keep (fun k => k = w.heap.size) w1 (w1.setCell ⟨w.heap.size, 0, none⟩ (heldV_each g)) := Keep.setCell (S := fun k => k = w.heap.size) (Keep.refl _ _) (.inl rfl) _
  have FIN := hid (And.intro (set_same o1 (i := 0) (heldV_each g)) (And.intro ((KK.out.trans kN (fun _ _ e => e)).trans kS (fun k hk e => by omega)) (hN.keep kS (by omega) (by omega) (by omega))))
  clear HW HN KK O0 kN o1 kS hN z0
  go_wp2
  go_ret2
  obtain ⟨q1, q2, q3⟩ := FIN.out
  exact ⟨_, rfl, rfl, q2, g, a, b, q3, q1, by omega, by omega, by omega⟩
set_option maxHeartbeats 2000000 in
theorem prnew_gate (h : MemAt w mb F ws log) (hl : ws.length ≤ 65536) (n : Nat) (h0 : 1 ≤ n) (h1 : n ≤ 6) (nb : Nat) (hb0 : 1 ≤ nb) (hb : nb ≤ 4) (hws : 4 * nb ≤ ws.length) : Calls Tryz.prog 27 #[pb mb, .int .u8 3, .int .i64 0, .int .i64 n, .int .i64 (nb : Int)] w fun e w' => ∃ p, e = .returned (.tuple #[pb p, .int .i64 0]) ∧ p = w.heap.size ∧ Keep Nil w w' ∧ ∃ g r, GNewAt w' g r mb ((0 : Nat) : Int) nb ∧ w'.heap[p]? = some (prHO_gate g n) ∧ w.heap.size < g ∧ w.heap.size < r := by
  have HW := hid (@prwords_gate w n h0 h1 nb hb0 hb)
  have K0 : Keep Nil w (w.alloc (.cells #[.nilIface, .int .u8 3, .int .i64 n] 142 (0, 0))) := (Keep.refl _ _).alloc _
  have o0 := heap_alloc_new w (.cells #[.nilIface, .int .u8 3, .int .i64 n] 142 (0, 0))
  have HN := hid (gnew_ok (h.keep K0 (fun _ _ e => e)) hl ((0 : Nat) : Int) nb (by unfold pErr; rw [if_neg (by omega), if_neg (by omega)]))
  have z0 : (w.alloc (.cells #[.nilIface, .int .u8 3, .int .i64 n] 142 (0, 0))).heap.size = w.heap.size + 1 := by simp
  have KK := hid K0
  have O0 := hid o0
  have Z0 := hid z0
  clear h hl h0 h1 hws K0 o0 z0 hb0 hb
  go_enter Tryz.func27, Tryz.ntmps27
  go_wp2_with fail
  refine HW.out.mono ?_
  rintro e w' ⟨rfl, rfl⟩
  go_wp2_with fail
  refine HN.out.mono ?_
  rintro e w1 ⟨g, a, rfl, hN, kN, l1, l2⟩
  have z0 := Z0.out
  rw [z0] at l1 l2
  have o1 := kN.at O0.out (fun e => e)
  have c0 : w1.cell? ⟨w.heap.size, 0, none⟩ = some .nilIface := by rw [cell_of o1]; rfl
  have f0 := free_of o1 0
  have kS : Keep (fun k => k = w.heap.size) w1 (w1.setCell ⟨w.heap.size, 0, none⟩ (heldV_gate g)) := Keep.setCell (S := fun k => k = w.heap.size) (Keep.refl _ _) (.inl rfl) _
  have FIN := hid (And.intro (set_same o1 (i := 0) (heldV_gate g)) (And.intro ((KK.out.trans kN (fun _ _ e => e)).trans kS (fun k hk e => by omega)) (show GNewAt _ g a mb ((0 : Nat) : Int) nb from ⟨kS.at hN.head (by omega), kS.at hN.map (by omega)⟩)))
  clear HW HN KK O0 kN o1 kS hN z0
  go_wp2
  go_ret2
  obtain ⟨q1, q2, q3⟩ := FIN.out
  exact ⟨_, rfl, rfl, q2, g, a, q3, q1, by omega, by omega⟩
end
end Go.Proofs.YtldjlcdccnnogaaGreat
