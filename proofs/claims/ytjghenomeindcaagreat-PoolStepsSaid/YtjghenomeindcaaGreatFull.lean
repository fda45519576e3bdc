
/- full: the engine; Words, New, inside, Open: contracts. -/
import Derived.Test.YtjghenomeindcaaGreatBase
import Derived.Test.YtjghenomeindcaaGreatMem
import Derived.Deep.RegionHeld3
namespace Go.Proofs.YtjghenomeindcaaGreat
open Go.RowKit Go.Lf

/-- The engine at block g: its numbers at nb, what is begun at bb. -/
structure EngAt (w : World) (g nb bb mb : Nat) (base : Int) (nums : List Int) (beg : List Bool) : Prop where
  head : w.heap[g]? = some (.cells #[.pointer (some ⟨mb, 0, none⟩), .int .i64 base, .slice (some ⟨nb, 0, none⟩) nums.length nums.length, .slice (some ⟨bb, 0, none⟩) nums.length nums.length] 270 (0, 0))
  hnums : w.heap[nb]? = some (.cells (u64s nums).toArray 54 (0, 0))
  hbeg : w.heap[bb]? = some (.cells (beg.map Value.bool).toArray 4 (0, 0))
  len : beg.length = nums.length
  n1 : g ≠ nb
  n2 : g ≠ bb
  n3 : nb ≠ bb
theorem EngAt.keep {w w' : World} {g nb bb mb : Nat} {base : Int} {nums : List Int} {beg : List Bool} {S : Nat → Prop} (h : EngAt w g nb bb mb base nums beg) (hk : Keep S w w') (h1 : ¬ S g) (h2 : ¬ S nb) (h3 : ¬ S bb) : EngAt w' g nb bb mb base nums beg :=
  ⟨hk.at h.head h1, hk.at h.hnums h2, hk.at h.hbeg h3, h.len, h.n1, h.n2, h.n3⟩
theorem EngAt.cells {w : World} {g nb bb mb : Nat} {base : Int} {nums : List Int} {beg : List Bool} (h : EngAt w g nb bb mb base nums beg) :
    w.cell? ⟨g, 0, none⟩ = some (.pointer (some ⟨mb, 0, none⟩)) ∧ w.cell? ⟨g, 1, none⟩ = some (.int .i64 base) ∧ w.cell? ⟨g, 2, none⟩ = some (.slice (some ⟨nb, 0, none⟩) nums.length nums.length) ∧ w.cell? ⟨g, 3, none⟩ = some (.slice (some ⟨bb, 0, none⟩) nums.length nums.length) := by
  refine ⟨?_, ?_, ?_, ?_⟩ <;> (rw [cell_of h.head]; rfl)
theorem EngAt.num {w : World} {g nb bb mb : Nat} {base : Int} {nums : List Int} {beg : List Bool} (h : EngAt w g nb bb mb base nums beg) {i : Nat} {x : Int} (hx : nums[i]? = some x) : w.cell? ⟨nb, i, none⟩ = some (.int .u64 x) := by
  rw [cell_of h.hnums]; simpa using u64s_at hx
theorem EngAt.begun {w : World} {g nb bb mb : Nat} {base : Int} {nums : List Int} {beg : List Bool} (h : EngAt w g nb bb mb base nums beg) {i : Nat} {x : Bool} (hx : beg[i]? = some x) : w.cell? ⟨bb, i, none⟩ = some (.bool x) := by
  rw [cell_of h.hbeg]; simp [hx]

section
variable {w : World}
set_option maxHeartbeats 400000 in
theorem fwords_no (n : Int) (h : n < 1 ∨ 64 < n) : Calls Tryz.prog 147 #[.int .i64 n] w fun e w' => e = .returned (.tuple #[.int .i64 0, .int .i64 2]) ∧ w = w' := by
  by_cases h1 : n < 1
  · have d1 : decide (n < 1) = true := decide_eq_true h1
    clear h h1
    go_enter Tryz.func147, Tryz.ntmps147
    go_wp2
    go_ret2
    exact ⟨rfl, rfl⟩
  · have d1 : decide (n < 1) = false := decide_eq_false h1
    have d2 : decide (64 < n) = true := decide_eq_true (by omega)
    clear h h1
    go_enter Tryz.func147, Tryz.ntmps147
    go_wp2
    go_ret2
    exact ⟨rfl, rfl⟩
set_option maxHeartbeats 400000 in
theorem fwords_ok (n : Int) (h : 1 ≤ n ∧ n ≤ 64) : Calls Tryz.prog 147 #[.int .i64 n] w fun e w' => e = .returned (.tuple #[.int .i64 n, .int .i64 0]) ∧ w = w' := by
  have d1 : decide (n < 1) = false := decide_eq_false (by omega)
  have d2 : decide (64 < n) = false := decide_eq_false (by omega)
  clear h
  go_enter Tryz.func147, Tryz.ntmps147
  go_wp2
  go_ret2
  exact ⟨rfl, rfl⟩
set_option maxHeartbeats 400000 in
theorem rfwords_no (n : Int) (h : n < 1 ∨ 64 < n) : Calls Tryz.prog 178 #[.int .i64 n] w fun e w' => e = .returned (.tuple #[.int .i64 0, .int .i64 2]) ∧ w = w' := by
  by_cases h1 : n < 1
  · have d1 : decide (n < 1) = true := decide_eq_true h1
    clear h h1
    go_enter Tryz.func178, Tryz.ntmps178
    go_wp2
    go_ret2
    exact ⟨rfl, rfl⟩
  · have d1 : decide (n < 1) = false := decide_eq_false h1
    have d2 : decide (64 < n) = true := decide_eq_true (by omega)
    clear h h1
    go_enter Tryz.func178, Tryz.ntmps178
    go_wp2
    go_ret2
    exact ⟨rfl, rfl⟩
set_option maxHeartbeats 400000 in
theorem rfwords_ok (n : Int) (h : 1 ≤ n ∧ n ≤ 64) : Calls Tryz.prog 178 #[.int .i64 n] w fun e w' => e = .returned (.tuple #[.int .i64 n, .int .i64 0]) ∧ w = w' := by
  have d1 : decide (n < 1) = false := decide_eq_false (by omega)
  have d2 : decide (64 < n) = false := decide_eq_false (by omega)
  clear h
  go_enter Tryz.func178, Tryz.ntmps178
  go_wp2
  go_ret2
  exact ⟨rfl, rfl⟩

/-! New. -/
set_option maxHeartbeats 400000 in
theorem fnew_nil (base n : Int) : Calls Tryz.prog 118 #[.pointer none, .int .i64 base, .int .i64 n] w fun e w' => e = .returned (.tuple #[.pointer none, .int .i64 1]) ∧ w = w' := by
  go_enter Tryz.func118, Tryz.ntmps118
  go_wp2
  go_ret2
  exact ⟨rfl, rfl⟩
variable {mb : Nat} {F : Nat → Prop} {ws : List Int} {log : List Acc}
set_option maxHeartbeats 1000000 in
theorem fnew_err (h : MemAt w mb F ws log) (_hl : ws.length ≤ 65536) (base n : Int) (he : fErr base n ws.length ≠ 0) :
    Calls Tryz.prog 118 #[.pointer (some ⟨mb, 0, none⟩), .int .i64 base, .int .i64 n] w fun e w' => e = .returned (.tuple #[.pointer none, .int .i64 (fErr base n ws.length)]) ∧ w = w' := by
  have H := hid h
  clear h
  by_cases hn : n < 1 ∨ 64 < n
  · rw [fErr_two hn]
    have hw := @fwords_no w n hn
    have HW := hid hw
    clear hw hn he
    go_enter Tryz.func118, Tryz.ntmps118
    go_wp2_with fail
    refine HW.out.mono ?_
    rintro e w' ⟨rfl, rfl⟩
    go_wp2
    go_ret2
    exact ⟨rfl, rfl⟩
  · have h3 : base < 0 ∨ (ws.length : Int) < base + n := by
      apply Classical.byContradiction
      intro h'
      apply he
      unfold fErr
      rw [if_neg hn, if_neg h']
    rw [fErr_three hn h3]
    have hw := @fwords_ok w n (by omega)
    have HW := hid hw
    by_cases h4 : base < 0
    · have d1 : decide (base < 0) = true := decide_eq_true h4
      clear hw hn he h3 h4
      go_enter Tryz.func118, Tryz.ntmps118
      go_wp2_with fail
      refine HW.out.mono ?_
      rintro e w' ⟨rfl, rfl⟩
      go_wp2
      go_ret2
      exact ⟨rfl, rfl⟩
    have d1 : decide (base < 0) = false := decide_eq_false h4
    by_cases h5 : 65536 < base
    · have d2 : decide (65536 < base) = true := decide_eq_true h5
      clear hw hn he h3 h4 h5
      go_enter Tryz.func118, Tryz.ntmps118
      go_wp2_with fail
      refine HW.out.mono ?_
      rintro e w' ⟨rfl, rfl⟩
      go_wp2
      go_ret2
      exact ⟨rfl, rfl⟩
    have d2 : decide (65536 < base) = false := decide_eq_false h5
    have hp := peek_no H.out (base + n - 1) (by omega)
    have HP := hid hp
    have n0 : 1 ≤ n := by omega
    have n1 : n ≤ 64 := by omega
    clear hw hn he h3 hp
    go_enter Tryz.func118, Tryz.ntmps118
    go_wp2_with fail
    refine HW.out.mono ?_
    rintro e w' ⟨rfl, rfl⟩
    go_wp2_with fail
    refine HP.out.mono ?_
    rintro e w' ⟨rfl, rfl⟩
    go_wp2
    go_ret2
    exact ⟨rfl, rfl⟩

/-- A new engine. -/
def FNewTo (w : World) (mb : Nat) (base : Int) (n : Nat) (e : Ending) (w' : World) : Prop :=
  ∃ g nb bb, e = .returned (.tuple #[.pointer (some ⟨g, 0, none⟩), .int .i64 0]) ∧ EngAt w' g nb bb mb base (List.replicate n 0) (List.replicate n false) ∧ Keep Nil w w' ∧ w.heap.size ≤ g ∧ w.heap.size ≤ nb ∧ w.heap.size ≤ bb

theorem eng_new (w : World) (mb : Nat) (base : Int) (n : Nat) : EngAt (((w.alloc (.cells (Array.replicate n (Value.int .u64 0)) 54)).alloc (.cells (Array.replicate n (Value.bool false)) 4)).alloc (.cells #[.pointer (some ⟨mb, 0, none⟩), .int .i64 base, .slice (some ⟨w.heap.size, 0, none⟩) n n, .slice (some ⟨w.heap.size + 1, 0, none⟩) n n] 270)).drew
    (w.heap.size + 1 + 1) w.heap.size (w.heap.size + 1) mb base (List.replicate n 0) (List.replicate n false) := by
  have h1 := heap_alloc_new w (.cells (Array.replicate n (Value.int .u64 0)) 54)
  have h2 := heap_alloc_new (w.alloc (.cells (Array.replicate n (Value.int .u64 0)) 54)) (.cells (Array.replicate n (Value.bool false)) 4)
  have h3 := heap_alloc_new ((w.alloc (.cells (Array.replicate n (Value.int .u64 0)) 54)).alloc (.cells (Array.replicate n (Value.bool false)) 4)) (.cells #[.pointer (some ⟨mb, 0, none⟩), .int .i64 base, .slice (some ⟨w.heap.size, 0, none⟩) n n, .slice (some ⟨w.heap.size + 1, 0, none⟩) n n] 270)
  rw [World.size_alloc] at h2
  rw [World.size_alloc, World.size_alloc] at h3
  refine ⟨?_, ?_, ?_, by simp, by omega, by omega, by omega⟩
  · rw [List.length_replicate]; exact h3
  · rw [show (u64s (List.replicate n 0)).toArray = Array.replicate n (Value.int .u64 0) by simp [u64s]]
    exact alloc_old (alloc_old h1 _) _
  · rw [show ((List.replicate n false).map Value.bool).toArray = Array.replicate n (Value.bool false) by simp]
    exact alloc_old h2 _

theorem eng_new2 (w : World) (mb : Nat) (base : Int) (n : Nat) : EngAt (((w.alloc (.cells (Array.replicate n (Value.bool false)) 4)).alloc (.cells (Array.replicate n (Value.int .u64 0)) 54)).alloc (.cells #[.pointer (some ⟨mb, 0, none⟩), .int .i64 base, .slice (some ⟨w.heap.size + 1, 0, none⟩) n n, .slice (some ⟨w.heap.size, 0, none⟩) n n] 270)).drew
    (w.heap.size + 1 + 1) (w.heap.size + 1) w.heap.size mb base (List.replicate n 0) (List.replicate n false) := by
  have h1 := heap_alloc_new w (.cells (Array.replicate n (Value.bool false)) 4)
  have h2 := heap_alloc_new (w.alloc (.cells (Array.replicate n (Value.bool false)) 4)) (.cells (Array.replicate n (Value.int .u64 0)) 54)
  have h3 := heap_alloc_new ((w.alloc (.cells (Array.replicate n (Value.bool false)) 4)).alloc (.cells (Array.replicate n (Value.int .u64 0)) 54)) (.cells #[.pointer (some ⟨mb, 0, none⟩), .int .i64 base, .slice (some ⟨w.heap.size + 1, 0, none⟩) n n, .slice (some ⟨w.heap.size, 0, none⟩) n n] 270)
  rw [World.size_alloc] at h2
  rw [World.size_alloc, World.size_alloc] at h3
  refine ⟨?_, ?_, ?_, by simp, by omega, by omega, by omega⟩
  · rw [List.length_replicate]; exact h3
  · rw [show (u64s (List.replicate n 0)).toArray = Array.replicate n (Value.int .u64 0) by simp [u64s]]
    exact alloc_old h2 _
  · rw [show ((List.replicate n false).map Value.bool).toArray = Array.replicate n (Value.bool false) by simp]
    exact alloc_old (alloc_old h1 _) _

set_option maxHeartbeats 1000000 in
theorem fnew_ok (h : MemAt w mb F ws log) (hl : ws.length ≤ 65536) (base : Int) (n : Nat) (he : fErr base n ws.length = 0) :
    Calls Tryz.prog 118 #[.pointer (some ⟨mb, 0, none⟩), .int .i64 base, .int .i64 n] w (FNewTo w mb base n) := by
  obtain ⟨n0, n1, b0, b1⟩ := fErr_zero he
  obtain ⟨x, hx⟩ : ∃ x, ws[(base + n - 1).toNat]? = some x := ⟨_, List.getElem?_eq_getElem (by omega)⟩
  have HP := hid (peek_ok h (base + n - 1) x (by omega) hx)
  have HW := hid (@fwords_ok w n ⟨n0, n1⟩)
  have d1 : decide (base < 0) = false := decide_eq_false (by omega)
  have d2 : decide (65536 < base) = false := decide_eq_false (by omega)
  have q1 := make_u64 n (by omega)
  have q2 := make_bool n (by omega)
  have b2 : base ≤ 65536 := by omega
  clear h hx he hl b1
  go_enter Tryz.func118, Tryz.ntmps118
  go_wp2_with fail
  refine HW.out.mono ?_
  rintro e w' ⟨rfl, rfl⟩
  go_wp2_with fail
  refine HP.out.mono ?_
  rintro e w' ⟨rfl, rfl⟩
  go_wp2
  go_region_law (fail)
  all_goals
    go_wp2
    go_ret2
    first
      | exact ⟨_, _, _, rfl, eng_new w mb base n, (((Keep.refl Nil w).alloc _).alloc _).alloc _ |>.drew, by omega, by omega, by omega⟩
      | exact ⟨_, _, _, rfl, eng_new2 w mb base n, (((Keep.refl Nil w).alloc _).alloc _).alloc _ |>.drew, by omega, by omega, by omega⟩

/-! inside, Open. -/
variable {g nb bb : Nat} {base : Int} {nums : List Int} {beg : List Bool}
/-- What Open returns. -/
def FOpenTo (w : World) (nums : List Int) (e : Ending) (w' : World) : Prop :=
  ∃ v, e = .returned v ∧ w'.ownsRow 0 3 1 v (fopens nums nums.length).length ((fopens nums nums.length).map (Value.int .i64)) ∧ Keep Nil w w' ∧ ∀ k, v.ownBlock = some k → w.heap.size ≤ k

end
end Go.Proofs.YtjghenomeindcaaGreat
