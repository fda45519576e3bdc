
/- Full, FullOps, FullOps2, FullOps3, in one text. -/
import Derived.Test.YtldjlcdccnnogaaGreatBase
import Derived.Test.YtldjlcdccnnogaaGreatMem
import Derived.Deep.RegionHeld3
import Derived.Test.YtldjlcdccnnogaaGreatFuncNil
import Derived.StillTailTactics

/-! full: the engine; Words, New, inside, Open: contracts. -/
namespace Go.Proofs.YtldjlcdccnnogaaGreat
open Go.RowKit Go.Lf

/-- The engine at block g: its numbers at nb, what is begun at bb. -/
structure EngAt (w : World) (g nb bb mb : Nat) (base : Int) (nums : List Int) (beg : List Bool) : Prop where
  head : w.heap[g]? = some (.cells #[.pointer (some ⟨mb, 0, none⟩), .int .i64 base, .slice (some ⟨nb, 0, none⟩) nums.length nums.length, .slice (some ⟨bb, 0, none⟩) nums.length nums.length] 195 (0, 0))
  hnums : w.heap[nb]? = some (.cells (u64s nums).toArray 41 (0, 0))
  hbeg : w.heap[bb]? = some (.cells (beg.map Value.bool).toArray 4 (0, 0))
  len : beg.length = nums.length
  n1 : g ≠ nb
  n2 : g ≠ bb
  n3 : nb ≠ bb
theorem EngAt.keep {w w' : World} {g nb bb mb : Nat} {base : Int} {nums : List Int} {beg : List Bool} {S : Nat → Prop} (h : EngAt w g nb bb mb base nums beg) (hk : Keep S w w') (h1 : ¬ S g) (h2 : ¬ S nb) (h3 : ¬ S bb) : EngAt w' g nb bb mb base nums beg :=
  ⟨hk.at h.head h1, hk.at h.hnums h2, hk.at h.hbeg h3, h.len, h.n1, h.n2, h.n3⟩
theorem EngAt.cells {w : World} {g nb bb mb : Nat} {base : Int} {nums : List Int} {beg : List Bool} (h : EngAt w g nb bb mb base nums beg) :
    w.cell? ⟨g, 0, none⟩ = some (.pointer (some ⟨mb, 0, none⟩)) ∧ w.cell? ⟨g, 1, none⟩ = some (.int .i64 base) ∧ w.cell? ⟨g, 2, none⟩ = some (.slice (some ⟨nb, 0, none⟩) nums.length nums.length) ∧ w.cell? ⟨g, 3, none⟩ = some (.slice (some ⟨bb, 0, none⟩) nums.length nums.length) := by
  refine ⟨?_, ?_, ?_, ?_⟩ <;> (rw [cell_of h.head]; rfl)
theorem EngAt.num {w : World} {g nb bb mb : Nat} {base : Int} {nums : List Int} {beg : List Bool} (h : EngAt w g nb bb mb base nums beg) {i : Nat} {x : Int} (hx : nums[i]? = some x) : w.cell? ⟨nb, i, none⟩ = some (.int .u64 x) := by
  rw [cell_of h.hnums]; simpa using u64s_at hx
theorem EngAt.begun {w : World} {g nb bb mb : Nat} {base : Int} {nums : List Int} {beg : List Bool} (h : EngAt w g nb bb mb base nums beg) {i : Nat} {x : Bool} (hx : beg[i]? = some x) : w.cell? ⟨bb, i, none⟩ = some (.bool x) := by
  rw [cell_of h.hbeg]; simp [hx]

section
variable {w : World}
set_option maxHeartbeats 400000 in
theorem fwords_no (n : Int) (h : n < 1 ∨ 64 < n) : Calls Tryz.prog 52 #[.int .i64 n] w fun e w' => e = .returned (.tuple #[.int .i64 0, .int .i64 2]) ∧ w = w' := by
  by_cases h1 : n < 1
  · have d1 : decide (n < 1) = true := decide_eq_true h1
    clear h h1
    go_enter Tryz.func52, Tryz.ntmps52
    go_wp2
    go_ret2
    exact ⟨rfl, rfl⟩
  · have d1 : decide (n < 1) = false := decide_eq_false h1
    have d2 : decide (64 < n) = true := decide_eq_true (by omega)
    clear h h1
    go_enter Tryz.func52, Tryz.ntmps52
    go_wp2
    go_ret2
    exact ⟨rfl, rfl⟩
set_option maxHeartbeats 400000 in
theorem fwords_ok (n : Int) (h : 1 ≤ n ∧ n ≤ 64) : Calls Tryz.prog 52 #[.int .i64 n] w fun e w' => e = .returned (.tuple #[.int .i64 n, .int .i64 0]) ∧ w = w' := by
  have d1 : decide (n < 1) = false := decide_eq_false (by omega)
  have d2 : decide (64 < n) = false := decide_eq_false (by omega)
  clear h
  go_enter Tryz.func52, Tryz.ntmps52
  go_wp2
  go_ret2
  exact ⟨rfl, rfl⟩
/-! New. -/
set_option maxHeartbeats 400000 in
theorem fnew_nil (base n : Int) : Calls Tryz.prog 57 #[.pointer none, .int .i64 base, .int .i64 n] w fun e w' => e = .returned (.tuple #[.pointer none, .int .i64 1]) ∧ w = w' := by
  go_enter Tryz.func57, Tryz.ntmps57
  go_wp2
  go_ret2
  exact ⟨rfl, rfl⟩
variable {mb : Nat} {F : Nat → Prop} {ws : List Int} {log : List Acc}
set_option maxHeartbeats 1000000 in
theorem fnew_err (h : MemAt w mb F ws log) (_hl : ws.length ≤ 65536) (base n : Int) (he : fErr base n ws.length ≠ 0) :
    Calls Tryz.prog 57 #[.pointer (some ⟨mb, 0, none⟩), .int .i64 base, .int .i64 n] w fun e w' => e = .returned (.tuple #[.pointer none, .int .i64 (fErr base n ws.length)]) ∧ w = w' := by
  have H := hid h
  clear h
  by_cases hn : n < 1 ∨ 64 < n
  · rw [fErr_two hn]
    have hw := @fwords_no w n hn
    have HW := hid hw
    clear hw hn he
    go_enter Tryz.func57, Tryz.ntmps57
    go_wp2_with fail
    refine HW.out.mono ?_
    rintro e w' ⟨rfl, rfl⟩
    go_wp2
    go_ret2
    exact ⟨rfl, rfl⟩
  · have h3 : base < 0 ∨ (ws.length : Int) < base + n := by
      apply Classical.byContradiction
      intro h'
      apply he
      unfold fErr
      rw [if_neg hn, if_neg h']
    rw [fErr_three hn h3]
    have hw := @fwords_ok w n (by omega)
    have HW := hid hw
    by_cases h4 : base < 0
    · have d1 : decide (base < 0) = true := decide_eq_true h4
      clear hw hn he h3 h4
      go_enter Tryz.func57, Tryz.ntmps57
      go_wp2_with fail
      refine HW.out.mono ?_
      rintro e w' ⟨rfl, rfl⟩
      go_wp2
      go_ret2
      exact ⟨rfl, rfl⟩
    have d1 : decide (base < 0) = false := decide_eq_false h4
    by_cases h5 : 65536 < base
    · have d2 : decide (65536 < base) = true := decide_eq_true h5
      clear hw hn he h3 h4 h5
      go_enter Tryz.func57, Tryz.ntmps57
      go_wp2_with fail
      refine HW.out.mono ?_
      rintro e w' ⟨rfl, rfl⟩
      go_wp2
      go_ret2
      exact ⟨rfl, rfl⟩
    have d2 : decide (65536 < base) = false := decide_eq_false h5
    have hp := peek_no H.out (base + n - 1) (by omega)
    have HP := hid hp
    have n0 : 1 ≤ n := by omega
    have n1 : n ≤ 64 := by omega
    clear hw hn he h3 hp
    go_enter Tryz.func57, Tryz.ntmps57
    go_wp2_with fail
    refine HW.out.mono ?_
    rintro e w' ⟨rfl, rfl⟩
    go_wp2_with fail
    refine HP.out.mono ?_
    rintro e w' ⟨rfl, rfl⟩
    go_wp2
    go_ret2
    exact ⟨rfl, rfl⟩

/-- A new engine. -/
def FNewTo (w : World) (mb : Nat) (base : Int) (n : Nat) (e : Ending) (w' : World) : Prop :=
  ∃ g nb bb, e = .returned (.tuple #[.pointer (some ⟨g, 0, none⟩), .int .i64 0]) ∧ EngAt w' g nb bb mb base (List.replicate n 0) (List.replicate n false) ∧ Keep Nil w w' ∧ w.heap.size ≤ g ∧ w.heap.size ≤ nb ∧ w.heap.size ≤ bb

theorem eng_new (w : World) (mb : Nat) (base : Int) (n : Nat) : EngAt (((w.alloc (.cells (Array.replicate n (Value.int .u64 0)) 41)).alloc (.cells (Array.replicate n (Value.bool false)) 4)).alloc (.cells #[.pointer (some ⟨mb, 0, none⟩), .int .i64 base, .slice (some ⟨w.heap.size, 0, none⟩) n n, .slice (some ⟨w.heap.size + 1, 0, none⟩) n n] 195)).drew
    (w.heap.size + 1 + 1) w.heap.size (w.heap.size + 1) mb base (List.replicate n 0) (List.replicate n false) := by
  have h1 := heap_alloc_new w (.cells (Array.replicate n (Value.int .u64 0)) 41)
  have h2 := heap_alloc_new (w.alloc (.cells (Array.replicate n (Value.int .u64 0)) 41)) (.cells (Array.replicate n (Value.bool false)) 4)
  have h3 := heap_alloc_new ((w.alloc (.cells (Array.replicate n (Value.int .u64 0)) 41)).alloc (.cells (Array.replicate n (Value.bool false)) 4)) (.cells #[.pointer (some ⟨mb, 0, none⟩), .int .i64 base, .slice (some ⟨w.heap.size, 0, none⟩) n n, .slice (some ⟨w.heap.size + 1, 0, none⟩) n n] 195)
  rw [World.size_alloc] at h2
  rw [World.size_alloc, World.size_alloc] at h3
  refine ⟨?_, ?_, ?_, by simp, by omega, by omega, by omega⟩
  · rw [List.length_replicate]; exact h3
  · rw [show (u64s (List.replicate n 0)).toArray = Array.replicate n (Value.int .u64 0) by simp [u64s]]
    exact alloc_old (alloc_old h1 _) _
  · rw [show ((List.replicate n false).map Value.bool).toArray = Array.replicate n (Value.bool false) by simp]
    exact alloc_old h2 _

theorem eng_new2 (w : World) (mb : Nat) (base : Int) (n : Nat) : EngAt (((w.alloc (.cells (Array.replicate n (Value.bool false)) 4)).alloc (.cells (Array.replicate n (Value.int .u64 0)) 41)).alloc (.cells #[.pointer (some ⟨mb, 0, none⟩), .int .i64 base, .slice (some ⟨w.heap.size + 1, 0, none⟩) n n, .slice (some ⟨w.heap.size, 0, none⟩) n n] 195)).drew
    (w.heap.size + 1 + 1) (w.heap.size + 1) w.heap.size mb base (List.replicate n 0) (List.replicate n false) := by
  have h1 := heap_alloc_new w (.cells (Array.replicate n (Value.bool false)) 4)
  have h2 := heap_alloc_new (w.alloc (.cells (Array.replicate n (Value.bool false)) 4)) (.cells (Array.replicate n (Value.int .u64 0)) 41)
  have h3 := heap_alloc_new ((w.alloc (.cells (Array.replicate n (Value.bool false)) 4)).alloc (.cells (Array.replicate n (Value.int .u64 0)) 41)) (.cells #[.pointer (some ⟨mb, 0, none⟩), .int .i64 base, .slice (some ⟨w.heap.size + 1, 0, none⟩) n n, .slice (some ⟨w.heap.size, 0, none⟩) n n] 195)
  rw [World.size_alloc] at h2
  rw [World.size_alloc, World.size_alloc] at h3
  refine ⟨?_, ?_, ?_, by simp, by omega, by omega, by omega⟩
  · rw [List.length_replicate]; exact h3
  · rw [show (u64s (List.replicate n 0)).toArray = Array.replicate n (Value.int .u64 0) by simp [u64s]]
    exact alloc_old h2 _
  · rw [show ((List.replicate n false).map Value.bool).toArray = Array.replicate n (Value.bool false) by simp]
    exact alloc_old (alloc_old h1 _) _

set_option maxHeartbeats 1000000 in
theorem fnew_ok (h : MemAt w mb F ws log) (hl : ws.length ≤ 65536) (base : Int) (n : Nat) (he : fErr base n ws.length = 0) :
    Calls Tryz.prog 57 #[.pointer (some ⟨mb, 0, none⟩), .int .i64 base, .int .i64 n] w (FNewTo w mb base n) := by
  obtain ⟨n0, n1, b0, b1⟩ := fErr_zero he
  obtain ⟨x, hx⟩ : ∃ x, ws[(base + n - 1).toNat]? = some x := ⟨_, List.getElem?_eq_getElem (by omega)⟩
  have HP := hid (peek_ok h (base + n - 1) x (by omega) hx)
  have HW := hid (@fwords_ok w n ⟨n0, n1⟩)
  have d1 : decide (base < 0) = false := decide_eq_false (by omega)
  have d2 : decide (65536 < base) = false := decide_eq_false (by omega)
  have q1 := make_u64 n (by omega)
  have q2 := make_bool n (by omega)
  have b2 : base ≤ 65536 := by omega
  clear h hx he hl b1
  go_enter Tryz.func57, Tryz.ntmps57
  go_wp2_with fail
  refine HW.out.mono ?_
  rintro e w' ⟨rfl, rfl⟩
  go_wp2_with fail
  refine HP.out.mono ?_
  rintro e w' ⟨rfl, rfl⟩
  go_wp2
  go_region_law (fail)
  all_goals
    go_wp2
    go_ret2
    first
      | exact ⟨_, _, _, rfl, eng_new w mb base n, (((Keep.refl Nil w).alloc _).alloc _).alloc _ |>.drew, by omega, by omega, by omega⟩
      | exact ⟨_, _, _, rfl, eng_new2 w mb base n, (((Keep.refl Nil w).alloc _).alloc _).alloc _ |>.drew, by omega, by omega, by omega⟩

/-! inside, Open. -/
variable {g nb bb : Nat} {base : Int} {nums : List Int} {beg : List Bool}
set_option maxHeartbeats 400000 in
theorem finside_any (h : EngAt w g nb bb mb base nums beg) (i : Nat) (x : Int) (hx : nums[i]? = some x) (x0 : 0 ≤ x) (b : Bool) (hb : (x % 2 == 1) = b) :
    Calls Tryz.prog 131 #[.pointer (some ⟨g, 0, none⟩), .int .i64 i] w fun e w' => e = .returned (.bool b) ∧ w = w' := by
  obtain ⟨c0, c1, c2, c3⟩ := h.cells
  have cx := h.num hx
  have l0 := lt_of_at hx
  clear h hx c0 c1 c3
  go_enter Tryz.func131, Tryz.ntmps131
  go_wp2
  go_ret
  exact ⟨rfl, rfl⟩

/-- What Open returns. -/
def FOpenTo (w : World) (nums : List Int) (e : Ending) (w' : World) : Prop :=
  ∃ v, e = .returned v ∧ w'.ownsRow 0 3 1 v (fopens nums nums.length).length ((fopens nums nums.length).map (Value.int .i64)) ∧ Keep Nil w w' ∧ ∀ k, v.ownBlock = some k → w.heap.size ≤ k

end
end Go.Proofs.YtldjlcdccnnogaaGreat

/-! full: the methods of the engine, of Enter and of Wait: contracts. -/
namespace Go.Lf
/-- A wait: its slot, what it does next (0 looks, 1 looks again, 2 nothing), the odd number. -/
structure WS where
  pos : Nat
  st : Nat
  first : Int
def WS.next (n : Nat) (s : WS) : WS := if s.pos + 1 = n then { s with pos := s.pos + 1, st := 2 } else { s with pos := s.pos + 1, st := 0 }
def WS.step (n : Nat) (x : Int) (s : WS) : WS := if s.st = 0 then (if x % 2 = 0 then s.next n else { s with st := 1, first := x }) else if x = s.first then s else s.next n
end Go.Lf
namespace Go.Proofs.YtldjlcdccnnogaaGreat
open Go.RowKit Go.Lf

theorem fe_eqf (w : World) (f : Fn) (x y : Array Value) : (binOp .eql 63 (.func f x y) .nilFunc).run Tryz.prog w = .ok (.bool false) w := run_eql_func w Tryz.underlying63 f x y
theorem fe_eqn (w : World) : (binOp .eql 63 .nilFunc .nilFunc).run Tryz.prog w = .ok (.bool true) w := run_eql_nilf w Tryz.underlying63
theorem fw_eqf (w : World) (f : Fn) (x y : Array Value) : (binOp .eql 138 (.func f x y) .nilFunc).run Tryz.prog w = .ok (.bool false) w := run_eql_func w Tryz.underlying138 f x y
theorem fw_eqn (w : World) : (binOp .eql 138 .nilFunc .nilFunc).run Tryz.prog w = .ok (.bool true) w := run_eql_nilf w Tryz.underlying138
attribute [local go_sem] fe_eqf fe_eqn fw_eqf fw_eqn

/-- The engine and its memory. -/
structure FSys (w : World) (g nb bb mb : Nat) (F : Nat → Prop) (base : Int) (nums : List Int) (beg : List Bool) (ws : List Int) (log : List Acc) : Prop where
  mem : MemAt w mb F ws log
  eng : EngAt w g nb bb mb base nums beg
  f1 : ¬ F g
  f2 : ¬ F nb
  f3 : ¬ F bb
def FSysTo (w : World) (g nb bb mb : Nat) (F : Nat → Prop) (base : Int) (nums : List Int) (beg : List Bool) (ws : List Int) (log : List Acc) (w' : World) : Prop :=
  ∃ F', FSys w' g nb bb mb F' base nums beg ws log ∧ Keep (fun k => F k ∨ k = nb ∨ k = bb) w w' ∧ Foot w F F'

section
variable {w : World} {g nb bb mb : Nat} {F : Nat → Prop} {base : Int} {nums : List Int} {beg : List Bool} {ws : List Int} {log : List Acc}
theorem FSys.keep {w' : World} {S : Nat → Prop} (h : FSys w g nb bb mb F base nums beg ws log) (hk : Keep S w w') (hd : ∀ k, F k → ¬ S k) (h1 : ¬ S g) (h2 : ¬ S nb) (h3 : ¬ S bb) : FSys w' g nb bb mb F base nums beg ws log :=
  ⟨h.mem.keep hk hd, h.eng.keep hk h1 h2 h3, h.f1, h.f2, h.f3⟩

set_option maxHeartbeats 400000 in
theorem fthread_nil (t : Int) : Calls Tryz.prog 133 #[.pointer none, .int .i64 t] w fun e w' => e = .returned (.int .i64 1) ∧ w = w' := by
  go_enter Tryz.func133, Tryz.ntmps133
  go_wp2
  go_ret
  exact ⟨rfl, rfl⟩
set_option maxHeartbeats 400000 in
theorem fthread_no (g : Nat) (t : Int) (h : t < 0 ∨ 64 ≤ t) : Calls Tryz.prog 133 #[.pointer (some ⟨g, 0, none⟩), .int .i64 t] w fun e w' => e = .returned (.int .i64 2) ∧ w = w' := by
  by_cases h1 : t < 0
  · have d1 : decide (t < 0) = true := decide_eq_true h1
    clear h h1
    go_enter Tryz.func133, Tryz.ntmps133
    go_wp2
    go_ret
    exact ⟨rfl, rfl⟩
  · have d1 : decide (t < 0) = false := decide_eq_false h1
    have d2 : decide (64 ≤ t) = true := decide_eq_true (by omega)
    clear h h1
    go_enter Tryz.func133, Tryz.ntmps133
    go_wp2
    go_ret
    exact ⟨rfl, rfl⟩
set_option maxHeartbeats 400000 in
theorem fthread_ok (g : Nat) (t : Int) (h0 : 0 ≤ t) (h1 : t < 64) : Calls Tryz.prog 133 #[.pointer (some ⟨g, 0, none⟩), .int .i64 t] w fun e w' => e = .returned (.int .i64 0) ∧ w = w' := by
  have d1 : decide (t < 0) = false := decide_eq_false (by omega)
  have d2 : decide (64 ≤ t) = false := decide_eq_false (by omega)
  go_enter Tryz.func133, Tryz.ntmps133
  go_wp2
  go_ret
  exact ⟨rfl, rfl⟩

set_option maxHeartbeats 400000 in
theorem fslot_nil (t s : Int) : Calls Tryz.prog 130 #[.pointer none, .int .i64 t, .int .i64 s] w fun e w' => e = .returned (.int .i64 1) ∧ w = w' := by
  go_enter Tryz.func130, Tryz.ntmps130
  go_wp2_with fail
  refine (fthread_nil _).mono ?_
  rintro e w' ⟨rfl, rfl⟩
  go_wp2
  go_ret
  exact ⟨rfl, rfl⟩
set_option maxHeartbeats 400000 in
theorem fslot_two (g : Nat) (t s : Int) (h : t < 0 ∨ 64 ≤ t) : Calls Tryz.prog 130 #[.pointer (some ⟨g, 0, none⟩), .int .i64 t, .int .i64 s] w fun e w' => e = .returned (.int .i64 2) ∧ w = w' := by
  have H := hid h
  clear h
  go_enter Tryz.func130, Tryz.ntmps130
  go_wp2_with fail
  refine (fthread_no _ _ H.out).mono ?_
  rintro e w' ⟨rfl, rfl⟩
  go_wp2
  go_ret
  exact ⟨rfl, rfl⟩
set_option maxHeartbeats 400000 in
theorem fslot_three (h : EngAt w g nb bb mb base nums beg) (t s : Int) (h0 : 0 ≤ t) (h1 : t < 64) (hs : s < 0 ∨ (nums.length : Int) ≤ s) : Calls Tryz.prog 130 #[.pointer (some ⟨g, 0, none⟩), .int .i64 t, .int .i64 s] w fun e w' => e = .returned (.int .i64 3) ∧ w = w' := by
  obtain ⟨c0, c1, c2, c3⟩ := h.cells
  have HT := hid (@fthread_ok w g t h0 h1)
  clear h c0 c1 c3
  by_cases h2 : s < 0
  · have d1 : decide (s < 0) = true := decide_eq_true h2
    clear hs h2
    go_enter Tryz.func130, Tryz.ntmps130
    go_wp2_with fail
    refine HT.out.mono ?_
    rintro e w' ⟨rfl, rfl⟩
    go_wp2
    go_ret
    exact ⟨rfl, rfl⟩
  · have d1 : decide (s < 0) = false := decide_eq_false h2
    have d2 : decide ((nums.length : Int) ≤ s) = true := decide_eq_true (by omega)
    clear hs h2
    go_enter Tryz.func130, Tryz.ntmps130
    go_wp2_with fail
    refine HT.out.mono ?_
    rintro e w' ⟨rfl, rfl⟩
    go_wp2
    go_ret
    exact ⟨rfl, rfl⟩
set_option maxHeartbeats 400000 in
theorem fslot_ok (h : EngAt w g nb bb mb base nums beg) (t s : Int) (h0 : 0 ≤ t) (h1 : t < 64) (s0 : 0 ≤ s) (s1 : s < (nums.length : Int)) : Calls Tryz.prog 130 #[.pointer (some ⟨g, 0, none⟩), .int .i64 t, .int .i64 s] w fun e w' => e = .returned (.int .i64 0) ∧ w = w' := by
  obtain ⟨c0, c1, c2, c3⟩ := h.cells
  have HT := hid (@fthread_ok w g t h0 h1)
  have d1 : decide (s < 0) = false := decide_eq_false (by omega)
  have d2 : decide ((nums.length : Int) ≤ s) = false := decide_eq_false (by omega)
  clear h c0 c1 c3
  go_enter Tryz.func130, Tryz.ntmps130
  go_wp2_with fail
  refine HT.out.mono ?_
  rintro e w' ⟨rfl, rfl⟩
  go_wp2
  go_ret
  exact ⟨rfl, rfl⟩

set_option maxRecDepth 100000 in
set_option maxHeartbeats 2000000 in
theorem fadv_ok (h : FSys w g nb bb mb F base nums beg ws log) (t : Int) (i : Nat) (x y : Int) (t0 : 0 ≤ t) (t1 : t < 64) (hx : nums[i]? = some x) (x0 : 0 ≤ x) (x1 : x < 1000000000000) (b0 : 0 ≤ base) (b1 : base < 1000000) (hn : nums.length < 1000000) (hy : ws[(base + i).toNat]? = some y) (hlog : log.length < 1000000000000) :
    Calls Tryz.prog 129 #[.pointer (some ⟨g, 0, none⟩), .int .i64 t, .int .i64 i] w fun e w' => e = .returned (.tuple #[]) ∧ FSysTo w g nb bb mb F base (nums.set i (x + 1)) beg (ws.set (base + i).toNat (x + 1)) (log ++ [⟨t, base + i, 2, y, x + 1, false⟩]) w' := by
  obtain ⟨c0, c1, c2, c3⟩ := h.eng.cells
  have cx := h.eng.num hx
  have l0 := lt_of_at hx
  have zf : w.frozen? ⟨nb, i, none⟩ = false := free_of h.eng.hnums i
  have H := hid h
  have hw : IntKind.u64.wrap (x + 1) = x + 1 := by rw [IntKind.wrap_u64]; omega
  have HY := hid hy
  have HX := hid hx
  have hgn := h.eng.n1
  clear h hy hx c3
  go_enter Tryz.func129, Tryz.ntmps129
  go_wp2
  obtain ⟨W, hW⟩ : ∃ W, W = w.setCell ⟨nb, i, none⟩ (.int .u64 (x + 1)) := ⟨_, rfl⟩
  rw [← hW]
  have kW : Keep (fun k => k = nb) w W := by rw [hW]; exact Keep.setCell (Keep.refl (fun k => k = nb) w) (.inl rfl) _
  have eW : EngAt W g nb bb mb base (nums.set i (x + 1)) beg := by
    refine ⟨?_, ?_, kW.at H.out.eng.hbeg (fun e => H.out.eng.n3 e.symm), by simp [H.out.eng.len], H.out.eng.n1, H.out.eng.n2, H.out.eng.n3⟩
    · rw [List.length_set]; exact kW.at H.out.eng.head hgn
    · rw [hW, set_same H.out.eng.hnums, ← u64s_set]; simp
  have mW : MemAt W mb F ws log := H.out.mem.keep kW (fun k hF e => H.out.f2 (by rw [← e]; exact hF))
  obtain ⟨d0, d1, d2, d3⟩ := eW.cells
  have dx := eW.num (i := i) (x := x + 1) (by rw [List.getElem?_set, if_pos rfl, if_pos l0])
  rw [List.length_set] at d2
  have EW := hid eW
  have MW := hid mW
  have KW := hid kW
  clear hW c0 c1 c2 cx zf d3 eW mW kW
  go_still_tail 18, (by kernel_rfl)
  change wpList _ _ _ _ _ W.drew
  go_wp2_with fail
  refine (store_ok (MW.out.keep (Keep.refl Nil W).drew (fun _ _ h => h)) t (base + i) y (x + 1) t0 t1 (by omega) HY.out hlog).mono ?_
  rintro e w2 ⟨rfl, F2, hm2, k2, f2⟩
  have k2' : Keep F W w2 := ((Keep.refl F W).drew).trans k2 (fun _ _ h => h)
  have hs : FSys w2 g nb bb mb F2 base (nums.set i (x + 1)) beg (ws.set (base + i).toNat (x + 1)) (log ++ [⟨t, base + i, 2, y, x + 1, false⟩]) := by
    have n1 : ∀ b : Nat, ¬ F b → b < w.heap.size → ¬ F2 b := fun b hb hl hF => (f2 b hF).elim hb (fun h => by have := KW.out.size; simp at h; omega)
    exact ⟨hm2, EW.out.keep k2' H.out.f1 H.out.f2 H.out.f3, n1 g H.out.f1 (lt_of_block H.out.eng.head), n1 nb H.out.f2 (lt_of_block H.out.eng.hnums), n1 bb H.out.f3 (lt_of_block H.out.eng.hbeg)⟩
  have hk : Keep (fun k => F k ∨ k = nb ∨ k = bb) w w2 := (KW.out.mono (fun _ _ h => .inr (.inl h))).trans (k2'.mono (T := fun k => F k ∨ k = nb ∨ k = bb) (fun _ _ h => .inl h)) (fun _ _ h => h)
  have HS := hid hs
  have HK := hid hk
  have HF := hid (show Foot w F F2 from fun k hF => (f2 k hF).elim .inl (fun h => .inr (by have := KW.out.size; simp at h; omega)))
  clear hm2 k2 f2 k2' hs hk
  go_wp2
  go_end0
  exact ⟨rfl, F2, HS.out, HK.out, HF.out⟩
end
end Go.Proofs.YtldjlcdccnnogaaGreat

/-! full: Enter and Exit: contracts. -/
namespace Go.Proofs.YtldjlcdccnnogaaGreat
open Go.RowKit Go.Lf
attribute [local go_sem] fe_eqf fe_eqn fw_eqf fw_eqn

def entV (eb : Nat) : Bool → Value
  | true => .func (.func 132) #[.pointer (some ⟨eb, 0, none⟩)] #[]
  | false => .nilFunc
def EntAt (w : World) (eb g : Nat) (t : Int) (i : Nat) (live : Bool) : Prop :=
  w.heap[eb]? = some (.cells #[.pointer (some ⟨g, 0, none⟩), .int .i64 t, .int .i64 i, entV eb live] 259 (0, 0))
section
variable {w : World} {g nb bb mb : Nat} {F : Nat → Prop} {base : Int} {nums : List Int} {beg : List Bool} {ws : List Int} {log : List Acc} {eb : Nat} {t : Int} {i : Nat} {live : Bool}
theorem EntAt.cells (h : EntAt w eb g t i live) : w.cell? ⟨eb, 0, none⟩ = some (.pointer (some ⟨g, 0, none⟩)) ∧ w.cell? ⟨eb, 1, none⟩ = some (.int .i64 t) ∧ w.cell? ⟨eb, 2, none⟩ = some (.int .i64 i) ∧ w.cell? ⟨eb, 3, none⟩ = some (entV eb live) := by
  refine ⟨?_, ?_, ?_, ?_⟩ <;> (rw [cell_of h]; rfl)
theorem ftype_ne {w : World} {b c : Nat} {x y : Array Value} {s t : TypeId} (h : w.heap[b]? = some (.cells x s (0, 0))) (k : w.heap[c]? = some (.cells y t (0, 0))) (hst : s ≠ t) : b ≠ c := by
  intro e; subst e; rw [h] at k
  simp only [Option.some.injEq, Obj.cells.injEq] at k
  exact hst k.2.1

def FEnterTo (w : World) (g nb bb mb : Nat) (F : Nat → Prop) (base : Int) (nums : List Int) (beg : List Bool) (ws : List Int) (log : List Acc) (t : Int) (i : Nat) (e : Ending) (w' : World) : Prop :=
  e = .returned (.tuple #[.pointer (some ⟨w.heap.size, 0, none⟩), .int .i64 0]) ∧ FSys w' g nb bb mb F base nums (beg.set i true) ws log ∧ EntAt w' w.heap.size g t i true ∧ Keep (fun k => k = bb) w w' ∧ w'.heap.size = w.heap.size + 1

theorem eng_begun (h : EngAt w g nb bb mb base nums beg) (v : Bool) : EngAt (w.setCell ⟨bb, i, none⟩ (.bool v)) g nb bb mb base nums (beg.set i v) := by
  have k : Keep (fun k => k = bb) w (w.setCell ⟨bb, i, none⟩ (.bool v)) := Keep.setCell (Keep.refl (fun k => k = bb) w) (.inl rfl) _
  refine ⟨k.at h.head h.n2, k.at h.hnums h.n3, ?_, by simp [h.len], h.n1, h.n2, h.n3⟩
  rw [set_same h.hbeg]; simp [List.map_set]

set_option maxRecDepth 100000 in
set_option maxHeartbeats 2000000 in
theorem fenter_ok (h : FSys w g nb bb mb F base nums beg ws log) (v : Int) (t0 : 0 ≤ t) (t1 : t < 64) (v0 : 0 ≤ v) (v1 : v < 64) (x : Int) (hx : nums[i]? = some x) (x0 : 0 ≤ x) (hev : x % 2 = 0) (hb : beg[i]? = some false) :
    Calls Tryz.prog 125 #[.pointer (some ⟨g, 0, none⟩), .int .i64 t, .int .i64 i, .int .i64 v] w (FEnterTo w g nb bb mb F base nums beg ws log t i) := by
  obtain ⟨c0, c1, c2, c3⟩ := h.eng.cells
  have cb := h.eng.begun hb
  have l0 := lt_of_at hx
  have zf : w.frozen? ⟨bb, i, none⟩ = false := free_of h.eng.hbeg i
  have HS := hid (fslot_ok h.eng t i t0 t1 (by omega) (by omega))
  have HI := hid (finside_any h.eng i x hx x0 false (by rw [hev]; rfl))
  have d1 : decide (v < 0) = false := decide_eq_false (by omega)
  have d2 : decide (64 ≤ v) = false := decide_eq_false (by omega)
  have H := hid h
  clear h hx hb c0 c1 c2 hev
  go_enter Tryz.func125, Tryz.ntmps125
  go_wp2_with fail
  refine HS.out.mono ?_
  rintro e w' ⟨rfl, rfl⟩
  go_wp2_with fail
  refine HI.out.mono ?_
  rintro e w' ⟨rfl, rfl⟩
  go_wp2
  go_ret2
  have hsz : (w.setCell ⟨bb, i, none⟩ (.bool true)).heap.size = w.heap.size := by simp
  have kW : Keep (fun k => k = bb) w ((w.setCell ⟨bb, i, none⟩ (.bool true)).alloc (.cells #[.pointer (some ⟨g, 0, none⟩), .int .i64 t, .int .i64 i, .func (.func 132) #[.pointer (some ⟨w.heap.size, 0, none⟩)] #[]] 259)) := (Keep.setCell (Keep.refl (fun k => k = bb) w) (.inl rfl) _).alloc _
  refine ⟨rfl, ⟨H.out.mem.keep kW (fun k hF e => H.out.f3 (by rw [← e]; exact hF)), (eng_begun H.out.eng true).keep ((Keep.refl Nil _).alloc _) (fun h => h) (fun h => h) (fun h => h), H.out.f1, H.out.f2, H.out.f3⟩, ?_, kW, by simp⟩
  have hq := heap_alloc_new (w.setCell ⟨bb, i, none⟩ (.bool true)) (.cells #[.pointer (some ⟨g, 0, none⟩), .int .i64 t, .int .i64 i, .func (.func 132) #[.pointer (some ⟨w.heap.size, 0, none⟩)] #[]] 259)
  rw [hsz] at hq
  exact hq

/-- An Enter has made its step. -/
def FEntTo (w : World) (g nb bb mb : Nat) (F : Nat → Prop) (base : Int) (nums : List Int) (beg : List Bool) (ws : List Int) (log : List Acc) (eb : Nat) (t : Int) (i : Nat) (w' : World) : Prop :=
  ∃ F', FSys w' g nb bb mb F' base nums beg ws log ∧ EntAt w' eb g t i false ∧ Keep (fun k => F k ∨ k = nb ∨ k = bb ∨ k = eb) w w' ∧ Foot w F F' ∧ ¬ F' eb

set_option maxRecDepth 100000 in
set_option maxHeartbeats 4000000 in
theorem fent_do (h : FSys w g nb bb mb F base nums beg ws log) (he : EntAt w eb g t i true) (hF : ¬ F eb) (x y : Int) (t0 : 0 ≤ t) (t1 : t < 64) (hx : nums[i]? = some x) (x0 : 0 ≤ x) (x1 : x < 1000000000000) (b0 : 0 ≤ base) (b1 : base < 1000000) (hn : nums.length < 1000000) (hy : ws[(base + i).toNat]? = some y) (hlog : log.length < 1000000000000) :
    Calls Tryz.prog 132 #[.pointer (some ⟨eb, 0, none⟩)] w fun e w' => e = .returned (.int .u8 13) ∧ FEntTo w g nb bb mb F base (nums.set i (x + 1)) (beg.set i false) (ws.set (base + i).toNat (x + 1)) (log ++ [⟨t, base + i, 2, y, x + 1, false⟩]) eb t i w' := by
  obtain ⟨c0, c1, c2, c3⟩ := he.cells
  have e1 : eb ≠ g := ftype_ne he h.eng.head (by decide)
  have e2 : eb ≠ nb := ftype_ne he h.eng.hnums (by decide)
  have e3 : eb ≠ bb := ftype_ne he h.eng.hbeg (by decide)
  have l0 := lt_of_at hx
  have lb := lt_of_block he
  have HA := hid (fadv_ok (h.keep (Keep.refl Nil w).drew (fun _ _ h => h) (fun h => h) (fun h => h) (fun h => h)) t i x y t0 t1 hx x0 x1 b0 b1 hn hy hlog)
  have H := hid h
  have E := hid he
  have HB := hid hF
  clear h he hx hy hF c3
  go_enter Tryz.func132, Tryz.ntmps132
  go_wp2
  go_still_tail 12, (by kernel_rfl)
  change wpList _ _ _ _ _ w.drew
  go_wp2_with fail
  refine HA.out.mono ?_
  rintro e w1 ⟨rfl, F1, hs1, hk1, hf1⟩
  have hnF : ¬ F1 eb := fun h => (hf1 eb h).elim HB.out (fun h => by simp at h; omega)
  have he1 : EntAt w1 eb g t i true := hk1.at (show w.drew.heap[eb]? = _ from E.out) (fun h => by rcases h with h | h | h; exact HB.out h; exact e2 h; exact e3 h)
  obtain ⟨a0, a1, a2, a3⟩ := he1.cells
  obtain ⟨k0, k1, k2, k3⟩ := hs1.eng.cells
  have zf : w1.frozen? ⟨bb, i, none⟩ = false := free_of hs1.eng.hbeg i
  have kb : ∃ b, w1.cell? ⟨bb, i, none⟩ = some (.bool b) := ⟨_, hs1.eng.begun (List.getElem?_eq_getElem (by rw [hs1.eng.len, List.length_set]; exact l0))⟩
  rw [List.length_set] at k3
  have S1 := hid hs1
  have E1 := hid he1
  have K1 := hid hk1
  have F1' := hid hf1
  have NF := hid hnF
  clear HA c0 c1 c2 hs1 he1 hk1 hf1 hnF a3 k0 k1 k2
  obtain ⟨b, kb⟩ := kb
  have zE : w1.frozen? ⟨eb, 3, none⟩ = false := free_of E1.out 3
  have cE := E1.out.cells.2.2.2
  simp only [entV] at cE
  go_wp2
  go_still_tail 12, (by kernel_rfl)
  change wpList _ _ _ _ _ w1.drew
  go_wp2
  go_ret
  have kW : Keep (fun k => k = bb ∨ k = eb) w1 ((w1.drew.setCell ⟨bb, i, none⟩ (.bool false)).setCell ⟨eb, 3, none⟩ .nilFunc) := Keep.setCell (Keep.setCell ((Keep.refl (fun k => k = bb ∨ k = eb) w1).drew) (.inl (.inl rfl)) _) (.inl (.inr rfl)) _
  refine ⟨rfl, F1, ⟨S1.out.mem.keep kW (fun k hF e => ?_), ?_, S1.out.f1, S1.out.f2, S1.out.f3⟩, ?_, ?_, F1'.out, NF.out⟩
  · rcases e with e | e
    · exact S1.out.f3 (by rw [← e]; exact hF)
    · exact NF.out (by rw [← e]; exact hF)
  · exact (eng_begun (w := w1.drew) (S1.out.eng.keep (Keep.refl Nil w1).drew (fun h => h) (fun h => h) (fun h => h)) false).keep (Keep.setCell (Keep.refl (fun k => k = eb) _) (.inl rfl) _) (fun h => e1 h.symm) (fun h => e2 h.symm) (fun h => e3 h.symm)
  · have hq : (w1.drew.setCell ⟨bb, i, none⟩ (.bool false)).heap[eb]? = _ := set_other (show w1.drew.heap[eb]? = _ from E1.out) e3 _
    exact set_same hq _
  · exact ((Keep.refl (fun k => F k ∨ k = nb ∨ k = bb ∨ k = eb) w).drew.trans (K1.out.mono (T := fun k => F k ∨ k = nb ∨ k = bb ∨ k = eb) (fun _ _ h => by rcases h with h | h | h; exact .inl h; exact .inr (.inl h); exact .inr (.inr (.inl h)))) (fun _ _ h => h)).trans (kW.mono (T := fun k => F k ∨ k = nb ∨ k = bb ∨ k = eb) (fun _ _ h => by rcases h with h | h; exact .inr (.inr (.inl h)); exact .inr (.inr (.inr h)))) (fun _ _ h => h)

set_option maxRecDepth 100000 in
set_option maxHeartbeats 2000000 in
theorem fent_step (h : FSys w g nb bb mb F base nums beg ws log) (he : EntAt w eb g t i true) (hF : ¬ F eb) (x y : Int) (t0 : 0 ≤ t) (t1 : t < 64) (hx : nums[i]? = some x) (x0 : 0 ≤ x) (x1 : x < 1000000000000) (b0 : 0 ≤ base) (b1 : base < 1000000) (hn : nums.length < 1000000) (hy : ws[(base + i).toNat]? = some y) (hlog : log.length < 1000000000000) :
    Calls Tryz.prog 192 #[.pointer (some ⟨eb, 0, none⟩)] w fun e w' => e = .returned (.tuple #[.int .u8 13, .bool true]) ∧ FEntTo w g nb bb mb F base (nums.set i (x + 1)) (beg.set i false) (ws.set (base + i).toNat (x + 1)) (log ++ [⟨t, base + i, 2, y, x + 1, false⟩]) eb t i w' := by
  have c3 := he.cells.2.2.2
  simp only [entV] at c3
  have HD := hid (fent_do h he hF x y t0 t1 hx x0 x1 b0 b1 hn hy hlog)
  clear h he hF hx hy hlog hn
  go_enter Tryz.func192, Tryz.ntmps192
  go_wp2_with fail
  refine HD.out.mono ?_
  rintro e w1 ⟨rfl, hq⟩
  have HQ := hid hq
  clear hq
  go_wp2
  go_ret2
  exact ⟨rfl, HQ.out⟩
set_option maxHeartbeats 1000000 in
theorem fent_idle (he : EntAt w eb g t i false) : Calls Tryz.prog 192 #[.pointer (some ⟨eb, 0, none⟩)] w fun e w' => e = .returned (.tuple #[.int .u8 0, .bool false]) ∧ w = w' := by
  have c3 := he.cells.2.2.2
  simp only [entV] at c3
  clear he
  go_enter Tryz.func192, Tryz.ntmps192
  go_wp2
  go_ret2
  exact ⟨rfl, rfl⟩
set_option maxHeartbeats 1000000 in
theorem fent_nil : Calls Tryz.prog 192 #[.pointer none] w fun e w' => e = .returned (.tuple #[.int .u8 0, .bool false]) ∧ w = w' := by
  go_enter Tryz.func192, Tryz.ntmps192
  go_wp2
  go_ret2
  exact ⟨rfl, rfl⟩
set_option maxHeartbeats 1000000 in
theorem fent_next (he : EntAt w eb g t i live) : Calls Tryz.prog 191 #[.pointer (some ⟨eb, 0, none⟩)] w fun e w' => e = .returned (.int .u8 (if live then 13 else 0)) ∧ w = w' := by
  have c3 := he.cells.2.2.2
  clear he
  cases live
  all_goals
    simp only [entV] at c3
    go_enter Tryz.func191, Tryz.ntmps191
    go_wp2
    go_ret
    exact ⟨rfl, rfl⟩
set_option maxHeartbeats 1000000 in
theorem fent_next_nil : Calls Tryz.prog 191 #[.pointer none] w fun e w' => e = .returned (.int .u8 0) ∧ w = w' := by
  go_enter Tryz.func191, Tryz.ntmps191
  go_wp2
  go_ret
  exact ⟨rfl, rfl⟩

/-! Exit. -/
set_option maxRecDepth 100000 in
set_option maxHeartbeats 2000000 in
theorem fexit_ok (h : FSys w g nb bb mb F base nums beg ws log) (x y : Int) (t0 : 0 ≤ t) (t1 : t < 64) (hx : nums[i]? = some x) (x0 : 0 ≤ x) (x1 : x < 1000000000000) (hodd : x % 2 = 1) (b0 : 0 ≤ base) (b1 : base < 1000000) (hn : nums.length < 1000000) (hy : ws[(base + i).toNat]? = some y) (hlog : log.length < 1000000000000) :
    Calls Tryz.prog 126 #[.pointer (some ⟨g, 0, none⟩), .int .i64 t, .int .i64 i] w fun e w' => e = .returned (.tuple #[.int .u8 13, .int .i64 0]) ∧ FSysTo w g nb bb mb F base (nums.set i (x + 1)) beg (ws.set (base + i).toNat (x + 1)) (log ++ [⟨t, base + i, 2, y, x + 1, false⟩]) w' := by
  have l0 := lt_of_at hx
  have HS := hid (fslot_ok h.eng t i t0 t1 (by omega) (by omega))
  have HI := hid (finside_any h.eng i x hx x0 true (by rw [hodd]; rfl))
  have HA := hid (fadv_ok h t i x y t0 t1 hx x0 x1 b0 b1 hn hy hlog)
  clear h hx hy hlog hn hodd
  go_enter Tryz.func126, Tryz.ntmps126
  go_wp2_with fail
  refine HS.out.mono ?_
  rintro e w' ⟨rfl, rfl⟩
  go_wp2_with fail
  refine HI.out.mono ?_
  rintro e w' ⟨rfl, rfl⟩
  go_wp2_with fail
  refine HA.out.mono ?_
  rintro e w1 ⟨rfl, hq⟩
  have HQ := hid hq
  clear hq
  go_wp2
  go_ret2
  exact ⟨rfl, HQ.out⟩
end
end Go.Proofs.YtldjlcdccnnogaaGreat

/-! full: Wait: contracts. -/
namespace Go.Proofs.YtldjlcdccnnogaaGreat
open Go.RowKit Go.Lf
attribute [local go_sem] fe_eqf fe_eqn fw_eqf fw_eqn

def waitV (wb : Nat) : Nat → Value
  | 0 => .func (.func 134) #[.pointer (some ⟨wb, 0, none⟩)] #[]
  | 1 => .func (.func 137) #[.pointer (some ⟨wb, 0, none⟩)] #[]
  | _ => .nilFunc
def WaitAt (w : World) (wb g : Nat) (t : Int) (s : WS) : Prop :=
  w.heap[wb]? = some (.cells #[.pointer (some ⟨g, 0, none⟩), .int .i64 t, .int .i64 s.pos, waitV wb s.st, .int .u64 s.first] 262 (0, 0))
section
variable {w : World} {g nb bb mb : Nat} {F : Nat → Prop} {base : Int} {nums : List Int} {beg : List Bool} {ws : List Int} {log : List Acc} {wb : Nat} {t : Int} {s : WS}
theorem WaitAt.cells (h : WaitAt w wb g t s) : w.cell? ⟨wb, 0, none⟩ = some (.pointer (some ⟨g, 0, none⟩)) ∧ w.cell? ⟨wb, 1, none⟩ = some (.int .i64 t) ∧ w.cell? ⟨wb, 2, none⟩ = some (.int .i64 s.pos) ∧ w.cell? ⟨wb, 3, none⟩ = some (waitV wb s.st) ∧ w.cell? ⟨wb, 4, none⟩ = some (.int .u64 s.first) := by
  refine ⟨?_, ?_, ?_, ?_, ?_⟩ <;> (rw [cell_of h]; rfl)

theorem WaitAt.keepW {w' : World} {S : Nat → Prop} (h : WaitAt w wb g t s) (hk : Keep S w w') (hn : ¬ S wb) : WaitAt w' wb g t s := hk.at h hn

/-- A new wait. -/
def FWaitTo (w : World) (g : Nat) (t : Int) (e : Ending) (w' : World) : Prop :=
  e = .returned (.tuple #[.pointer (some ⟨w.heap.size, 0, none⟩), .int .i64 0]) ∧ WaitAt w' w.heap.size g t ⟨0, 0, 0⟩ ∧ Keep Nil w w' ∧ w'.heap.size = w.heap.size + 1
set_option maxHeartbeats 1000000 in
theorem fwait_ok (t0 : 0 ≤ t) (t1 : t < 64) (x : Int) (hx : x ≠ 0) : Calls Tryz.prog 128 #[.pointer (some ⟨g, 0, none⟩), .int .i64 t, .int .u64 x] w (FWaitTo w g t) := by
  have HT := hid (@fthread_ok w g t t0 t1)
  have d1 : (x == 0) = false := beq_eq_false_iff_ne.2 hx
  clear hx
  go_enter Tryz.func128, Tryz.ntmps128
  go_wp2_with fail
  refine HT.out.mono ?_
  rintro e w' ⟨rfl, rfl⟩
  go_wp2
  go_ret2
  exact ⟨rfl, heap_alloc_new w _, (Keep.refl Nil w).alloc _, by simp⟩

/-- A wait has turned, and nothing else. -/
def WNextTo (w : World) (wb g : Nat) (t : Int) (s : WS) (e : Ending) (w' : World) : Prop := e = .returned (.tuple #[]) ∧ WaitAt w' wb g t s ∧ Keep (fun k => k = wb) w w'
set_option maxRecDepth 100000 in
set_option maxHeartbeats 2000000 in
theorem fnext_any (h : EngAt w g nb bb mb base nums beg) (hw : WaitAt w wb g t s) (hp : s.pos < 1000000) :
    Calls Tryz.prog 136 #[.pointer (some ⟨wb, 0, none⟩)] w (WNextTo w wb g t (s.next nums.length)) := by
  obtain ⟨c0, c1, c2, c3, c4⟩ := hw.cells
  obtain ⟨k0, k1, k2, k3⟩ := h.cells
  have e1 : wb ≠ g := ftype_ne hw h.head (by decide)
  have z2 : w.frozen? ⟨wb, 2, none⟩ = false := free_of hw 2
  have z3 : w.frozen? ⟨wb, 3, none⟩ = false := free_of hw 3
  have H := hid h
  have W0 := hid hw
  have E1 := hid e1
  obtain ⟨v3, hv3⟩ : ∃ v, v = waitV wb s.st := ⟨_, rfl⟩
  rw [← hv3] at c3
  have hst : s.next nums.length = if s.pos + 1 = nums.length then { s with pos := s.pos + 1, st := 2 } else { s with pos := s.pos + 1, st := 0 } := rfl
  obtain ⟨s', hs'⟩ : ∃ s', s' = s.next nums.length := ⟨_, rfl⟩
  rw [← hs'] at hst ⊢
  obtain ⟨pos, st, first⟩ := s
  simp only at c2 hp hst
  have HST := hid hst
  clear h hw c1 c4 k0 k1 k3 e1 hs' hst hv3
  go_enter Tryz.func136, Tryz.ntmps136
  go_wp2
  obtain ⟨W, hW⟩ : ∃ W, W = (w.setCell ⟨wb, 2, none⟩ (.int .i64 ((pos : Int) + 1))).setCell ⟨wb, 3, none⟩ (.func (.func 134) #[.pointer (some ⟨wb, 0, none⟩)] #[]) := ⟨_, rfl⟩
  rw [← hW]
  have kW : Keep (fun k => k = wb) w W := by rw [hW]; exact Keep.setCell (Keep.setCell (Keep.refl (fun k => k = wb) w) (.inl rfl) _) (.inl rfl) _
  have aW : WaitAt W wb g t ⟨pos + 1, 0, first⟩ := by
    rw [hW]
    exact set_same (set_same W0.out _) _
  obtain ⟨a0, a1, a2, a3, a4⟩ := aW.cells
  simp only [waitV] at a2 a3
  have g2 := kW.cell k2 (fun h => E1.out h.symm)
  have z3' : W.frozen? ⟨wb, 3, none⟩ = false := free_of aW 3
  have KW := hid kW
  have AW := hid aW
  clear hW c0 c2 c3 k2 z2 z3 aW kW a1 a4
  have hcast : ((pos + 1 : Nat) : Int) = (pos : Int) + 1 := by omega
  rw [hcast] at a2
  clear hcast
  by_cases hl : pos + 1 = nums.length
  · have d1 : ((pos : Int) + 1 == (nums.length : Int)) = true := beq_iff_eq.2 (by omega)
    have hsv := hid (HST.out.trans (if_pos hl))
    clear hl
    go_quiet (fail)
    go_wp2
    go_end0
    rw [hsv.out]
    exact ⟨rfl, set_same (show (W.drewN nq).heap[wb]? = _ from AW.out) _, Keep.setCell (KW.out.drewN nq) (.inl rfl) _⟩
  · have d1 : ((pos : Int) + 1 == (nums.length : Int)) = false := beq_eq_false_iff_ne.2 (by omega)
    have hsv := hid (HST.out.trans (if_neg hl))
    clear hl
    go_quiet (fail)
    go_wp2
    go_end0
    rw [hsv.out]
    exact ⟨rfl, AW.out, KW.out.drewN nq⟩

/-! look, again. -/
set_option maxRecDepth 100000 in
set_option maxHeartbeats 2000000 in
theorem flook_any (h : EngAt w g nb bb mb base nums beg) (hw : WaitAt w wb g t s) (hp : s.pos < 1000000) (hst : s.st = 0) (x : Int) (x0 : 0 ≤ x) :
    Calls Tryz.prog 134 #[.pointer (some ⟨wb, 0, none⟩), .int .u64 x] w (WNextTo w wb g t (s.step nums.length x)) := by
  have hs : s.step nums.length x = if x % 2 = 0 then s.next nums.length else { s with st := 1, first := x } := if_pos hst
  have HN := hid (fnext_any h hw hp)
  obtain ⟨s', hs'⟩ : ∃ s', s' = s.step nums.length x := ⟨_, rfl⟩
  rw [← hs'] at hs ⊢
  obtain ⟨c0, c1, c2, c3, c4⟩ := hw.cells
  have z3 : w.frozen? ⟨wb, 3, none⟩ = false := free_of hw 3
  have z4 : w.frozen? ⟨wb, 4, none⟩ = false := free_of hw 4
  rw [hst] at c3
  have W0 := hid hw
  simp only [waitV] at c3
  by_cases hx : x % 2 = 0
  · have d1 : (x % 2 == 0) = true := beq_iff_eq.2 hx
    have HS := hid (hs.trans (if_pos hx))
    clear h hw hst hs hs' hx c0 c1 c2 c3 c4 z3 z4
    rw [HS.out]
    go_enter Tryz.func134, Tryz.ntmps134
    go_wp2_with fail
    refine HN.out.mono ?_
    rintro e w1 ⟨rfl, hq⟩
    have HQ := hid hq
    clear hq
    go_wp2
    go_end0
    exact ⟨rfl, HQ.out⟩
  · have d1 : (x % 2 == 0) = false := beq_eq_false_iff_ne.2 hx
    have HS := hid (hs.trans (if_neg hx))
    clear h hw hst hs hs' hx HN
    rw [HS.out]
    go_enter Tryz.func134, Tryz.ntmps134
    go_wp2
    go_end0
    exact ⟨rfl, set_same (set_same W0.out _) _, Keep.setCell (Keep.setCell (Keep.refl (fun k => k = wb) w) (.inl rfl) _) (.inl rfl) _⟩
set_option maxRecDepth 100000 in
set_option maxHeartbeats 2000000 in
theorem fagain_any (h : EngAt w g nb bb mb base nums beg) (hw : WaitAt w wb g t s) (hp : s.pos < 1000000) (hst : s.st = 1) (x : Int) :
    Calls Tryz.prog 137 #[.pointer (some ⟨wb, 0, none⟩), .int .u64 x] w (WNextTo w wb g t (s.step nums.length x)) := by
  have hs : s.step nums.length x = if x = s.first then s else s.next nums.length := if_neg (by rw [hst]; decide)
  have HN := hid (fnext_any h hw hp)
  obtain ⟨s', hs'⟩ : ∃ s', s' = s.step nums.length x := ⟨_, rfl⟩
  rw [← hs'] at hs ⊢
  have c4 := hw.cells.2.2.2.2
  have W0 := hid hw
  by_cases hx : x = s.first
  · have d1 : (x != s.first) = false := by simp [hx]
    have HS := hid (hs.trans (if_pos hx))
    clear h hw hst hs hs' hx HN
    rw [HS.out]
    go_enter Tryz.func137, Tryz.ntmps137
    go_wp2
    go_end0
    exact ⟨rfl, W0.out, Keep.refl _ _⟩
  · have d1 : (x != s.first) = true := by simp [hx]
    have HS := hid (hs.trans (if_neg hx))
    clear h hw hst hs hs' hx
    rw [HS.out]
    go_enter Tryz.func137, Tryz.ntmps137
    go_wp2_with fail
    refine HN.out.mono ?_
    rintro e w1 ⟨rfl, hq⟩
    have HQ := hid hq
    clear hq
    go_wp2
    go_end0
    exact ⟨rfl, HQ.out⟩
theorem fwv_eq (w : World) (wb k : Nat) : (binOp .eql 138 (waitV wb k) .nilFunc).run Tryz.prog w = .ok (.bool (decide (2 ≤ k))) w := by
  match k with
  | 0 => exact fw_eqf w _ _ _
  | 1 => exact fw_eqf w _ _ _
  | k + 2 => rw [show waitV wb (k + 2) = .nilFunc from rfl, decide_eq_true (by omega)]; exact fw_eqn w
theorem fwv_g (w : World) (t : TypeId) (x y : Operand) (wb k : Nat) : (eqGuard .eql t x y (waitV wb k) .nilFunc).run Tryz.prog w = .ok () w := by
  match k with
  | 0 => rfl
  | 1 => rfl
  | k + 2 => rfl
attribute [local go_sem] fwv_eq fwv_g

/-- A wait has made a step. -/
def FWStepTo (w : World) (g nb bb mb : Nat) (F : Nat → Prop) (base : Int) (nums : List Int) (beg : List Bool) (ws : List Int) (log : List Acc) (wb : Nat) (t : Int) (s : WS) (e : Ending) (w' : World) : Prop :=
  e = .returned (.tuple #[.int .u8 17, .bool (decide (2 ≤ s.st))]) ∧ ∃ F', FSys w' g nb bb mb F' base nums beg ws log ∧ WaitAt w' wb g t s ∧ Keep (fun k => F k ∨ k = wb) w w' ∧ Foot w F F' ∧ ¬ F' wb

theorem wstep_mk {w1 w2 : World} {F1 : Nat → Prop} {log' : List Acc} {s' : WS} (h : FSys w g nb bb mb F base nums beg ws log) (hw : WaitAt w wb g t s) (hF : ¬ F wb) (lw : wb < w.heap.size) (m1 : MemAt w1 mb F1 ws log') (k1 : Keep F w.drew w1) (f1 : Foot w.drew F F1) (l2 : WaitAt w2 wb g t s') (k2 : Keep (fun k => k = wb) w1 w2) :
    FWStepTo w g nb bb mb F base nums beg ws log' wb t s' (.returned (.tuple #[.int .u8 17, .bool (decide (2 ≤ s'.st))])) w2 := by
  have e1 : wb ≠ g := ftype_ne hw h.eng.head (by decide)
  have e2 : wb ≠ nb := ftype_ne hw h.eng.hnums (by decide)
  have e3 : wb ≠ bb := ftype_ne hw h.eng.hbeg (by decide)
  have n1 : ∀ b : Nat, ¬ F b → b < w.heap.size → ¬ F1 b := fun b hb hl hF' => (f1 b hF').elim hb (fun h => by simp at h; omega)
  have nw := n1 wb hF lw
  have k0 : Keep F w w1 := ((Keep.refl F w).drew).trans k1 (fun _ _ h => h)
  refine ⟨rfl, F1, ⟨m1.keep k2 (fun k hk e => nw (by rw [← e]; exact hk)), (h.eng.keep k0 h.f1 h.f2 h.f3).keep k2 (fun e => e1 e.symm) (fun e => e2 e.symm) (fun e => e3 e.symm), n1 g h.f1 (lt_of_block h.eng.head), n1 nb h.f2 (lt_of_block h.eng.hnums), n1 bb h.f3 (lt_of_block h.eng.hbeg)⟩, l2, ?_, fun k hk => (f1 k hk).elim .inl (fun h => .inr (by simpa using h)), nw⟩
  exact (k0.mono (T := fun k => F k ∨ k = wb) (fun _ _ h => .inl h)).trans (k2.mono (T := fun k => F k ∨ k = wb) (fun _ _ h => .inr h)) (fun _ _ h => h)

set_option maxRecDepth 100000 in
set_option maxHeartbeats 8000000 in
theorem fwait_step (h : FSys w g nb bb mb F base nums beg ws log) (hw : WaitAt w wb g t s) (hF : ¬ F wb) (hp : s.pos < 1000000) (hst : s.st < 2) (x : Int) (x0 : 0 ≤ x) (t0 : 0 ≤ t) (t1 : t < 64) (b0 : 0 ≤ base) (b1 : base < 1000000) (hx : ws[(base + s.pos).toNat]? = some x) (hlog : log.length < 1000000000000) :
    Calls Tryz.prog 194 #[.pointer (some ⟨wb, 0, none⟩)] w (FWStepTo w g nb bb mb F base nums beg ws (log ++ [⟨t, base + s.pos, 1, x, x, false⟩]) wb t (s.step nums.length x)) := by
  obtain ⟨c0, c1, c2, c3, c4⟩ := hw.cells
  obtain ⟨k0, k1, k2, k3⟩ := h.eng.cells
  have e1 : wb ≠ g := ftype_ne hw h.eng.head (by decide)
  have e2 : wb ≠ nb := ftype_ne hw h.eng.hnums (by decide)
  have e3 : wb ≠ bb := ftype_ne hw h.eng.hbeg (by decide)
  have lw := lt_of_block hw
  have hwr : IntKind.i64.wrap (base + s.pos) = base + s.pos := by rw [IntKind.wrap_i64]; omega
  have HW := hid hw
  have H := hid h
  have HB := hid hF
  have HX := hid hx
  have KD := hid ((Keep.refl Nil w).drew)
  have E1 := hid e1
  have E2 := hid e2
  have E3 := hid e3
  clear h hw hF hx c4 k2 k3 e1 e2 e3
  have hlook : ∀ (v : World), EngAt v g nb bb mb base nums beg → WaitAt v wb g t s → s.st = 0 → Calls Tryz.prog 134 #[.pointer (some ⟨wb, 0, none⟩), .int .u64 x] v (WNextTo v wb g t (s.step nums.length x)) := fun v h hw hs => flook_any h hw hp hs x x0
  have hagain : ∀ (v : World), EngAt v g nb bb mb base nums beg → WaitAt v wb g t s → s.st = 1 → Calls Tryz.prog 137 #[.pointer (some ⟨wb, 0, none⟩), .int .u64 x] v (WNextTo v wb g t (s.step nums.length x)) := fun v h hw hs => fagain_any h hw hp hs x
  have LK := hid hlook
  have AG := hid hagain
  obtain ⟨s', hs'⟩ : ∃ s', s' = s.step nums.length x := ⟨_, rfl⟩
  rw [← hs'] at LK AG ⊢
  clear hlook hagain hs'
  by_cases h0 : s.st = 0
  · rw [h0] at c3
    simp only [waitV] at c3
    have H0 := hid h0
    clear h0 hst
    go_enter Tryz.func194, Tryz.ntmps194
    go_wp2
    go_region_held3 (fun w' => w'.cell? ⟨wb, 0, none⟩ = some (.pointer (some ⟨g, 0, none⟩)) ∧ w'.cell? ⟨wb, 1, none⟩ = some (.int .i64 t) ∧ w'.cell? ⟨wb, 2, none⟩ = some (.int .i64 s.pos) ∧ w'.cell? ⟨g, 0, none⟩ = some (.pointer (some ⟨mb, 0, none⟩)) ∧ w'.cell? ⟨g, 1, none⟩ = some (.int .i64 base)) (go_keep)
      ((go_at_call 177; (with_reducible refine (load_ok (H.out.mem.keep KD.out (fun _ _ h => h)) t (base + s.pos) x t0 t1 (by omega) HX.out hlog).mono ?_); rintro e w1 ⟨rfl, F1, hm1, hk1, hf1⟩; have hL1 := (HW.out.keepW KD.out (fun h => h)).keepW hk1 HB.out; have hG1 := (H.out.eng.keep KD.out (fun h => h) (fun h => h) (fun h => h)).keep hk1 H.out.f1 H.out.f2 H.out.f3; have d0 := hL1.cells.1; have d1 := hL1.cells.2.1; have d2 := hL1.cells.2.2.1; have d3 := hG1.cells.1; have d4 := hG1.cells.2.1; have M1 := hid hm1; have K1 := hid hk1; have F1' := hid hf1; have L1 := hid hL1; have G1 := hid hG1; clear hm1 hk1 hf1 hL1 hG1))
    have g3 := L1.out.cells.2.2.2.1
    rw [H0.out] at g3
    simp only [waitV] at g3
    go_wp2_with fail
    refine (LK.out w1 G1.out L1.out H0.out).mono ?_
    rintro e w2 ⟨rfl, hl2, hk2⟩
    have g5 := hl2.cells.2.2.2.1
    have L2 := hid hl2
    have K2 := hid hk2
    clear hl2 hk2
    go_wp2
    go_quiet (fail)
    go_wp2
    go_ret2
    exact wstep_mk H.out HW.out HB.out lw M1.out K1.out F1'.out L2.out (K2.out.drewN nq)
  · replace h0 : s.st = 1 := by omega
    rw [h0] at c3
    simp only [waitV] at c3
    have H0 := hid h0
    clear h0 hst
    go_enter Tryz.func194, Tryz.ntmps194
    go_wp2
    go_region_held3 (fun w' => w'.cell? ⟨wb, 0, none⟩ = some (.pointer (some ⟨g, 0, none⟩)) ∧ w'.cell? ⟨wb, 1, none⟩ = some (.int .i64 t) ∧ w'.cell? ⟨wb, 2, none⟩ = some (.int .i64 s.pos) ∧ w'.cell? ⟨g, 0, none⟩ = some (.pointer (some ⟨mb, 0, none⟩)) ∧ w'.cell? ⟨g, 1, none⟩ = some (.int .i64 base)) (go_keep)
      ((go_at_call 177; (with_reducible refine (load_ok (H.out.mem.keep KD.out (fun _ _ h => h)) t (base + s.pos) x t0 t1 (by omega) HX.out hlog).mono ?_); rintro e w1 ⟨rfl, F1, hm1, hk1, hf1⟩; have hL1 := (HW.out.keepW KD.out (fun h => h)).keepW hk1 HB.out; have hG1 := (H.out.eng.keep KD.out (fun h => h) (fun h => h) (fun h => h)).keep hk1 H.out.f1 H.out.f2 H.out.f3; have d0 := hL1.cells.1; have d1 := hL1.cells.2.1; have d2 := hL1.cells.2.2.1; have d3 := hG1.cells.1; have d4 := hG1.cells.2.1; have M1 := hid hm1; have K1 := hid hk1; have F1' := hid hf1; have L1 := hid hL1; have G1 := hid hG1; clear hm1 hk1 hf1 hL1 hG1))
    have g3 := L1.out.cells.2.2.2.1
    rw [H0.out] at g3
    simp only [waitV] at g3
    go_wp2_with fail
    refine (AG.out w1 G1.out L1.out H0.out).mono ?_
    rintro e w2 ⟨rfl, hl2, hk2⟩
    have g5 := hl2.cells.2.2.2.1
    have L2 := hid hl2
    have K2 := hid hk2
    clear hl2 hk2
    go_wp2
    go_quiet (fail)
    go_wp2
    go_ret2
    exact wstep_mk H.out HW.out HB.out lw M1.out K1.out F1'.out L2.out (K2.out.drewN nq)
set_option maxHeartbeats 1000000 in
theorem fwait_idle (hw : WaitAt w wb g t s) (hst : 2 ≤ s.st) : Calls Tryz.prog 194 #[.pointer (some ⟨wb, 0, none⟩)] w fun e w' => e = .returned (.tuple #[.int .u8 0, .bool false]) ∧ w = w' := by
  have c3 := hw.cells.2.2.2.1
  have d1 : decide (2 ≤ s.st) = true := decide_eq_true hst
  clear hw hst
  go_enter Tryz.func194, Tryz.ntmps194
  go_wp2
  go_ret2
  exact ⟨rfl, rfl⟩
set_option maxHeartbeats 1000000 in
theorem fwait_nil : Calls Tryz.prog 194 #[.pointer none] w fun e w' => e = .returned (.tuple #[.int .u8 0, .bool false]) ∧ w = w' := by
  go_enter Tryz.func194, Tryz.ntmps194
  go_wp2
  go_ret2
  exact ⟨rfl, rfl⟩
set_option maxHeartbeats 1000000 in
theorem fwnext_live (hw : WaitAt w wb g t s) (hst : s.st < 2) : Calls Tryz.prog 193 #[.pointer (some ⟨wb, 0, none⟩)] w fun e w' => e = .returned (.int .u8 17) ∧ w = w' := by
  have c3 := hw.cells.2.2.2.1
  have d1 : decide (2 ≤ s.st) = false := decide_eq_false (by omega)
  clear hw hst
  go_enter Tryz.func193, Tryz.ntmps193
  go_wp2
  go_ret
  exact ⟨rfl, rfl⟩
set_option maxHeartbeats 1000000 in
theorem fwnext_idle (hw : WaitAt w wb g t s) (hst : 2 ≤ s.st) : Calls Tryz.prog 193 #[.pointer (some ⟨wb, 0, none⟩)] w fun e w' => e = .returned (.int .u8 0) ∧ w = w' := by
  have c3 := hw.cells.2.2.2.1
  have d1 : decide (2 ≤ s.st) = true := decide_eq_true hst
  clear hw hst
  go_enter Tryz.func193, Tryz.ntmps193
  go_wp2
  go_ret
  exact ⟨rfl, rfl⟩
set_option maxHeartbeats 1000000 in
theorem fwnext_nil : Calls Tryz.prog 193 #[.pointer none] w fun e w' => e = .returned (.int .u8 0) ∧ w = w' := by
  go_enter Tryz.func193, Tryz.ntmps193
  go_wp2
  go_ret
  exact ⟨rfl, rfl⟩
end
end Go.Proofs.YtldjlcdccnnogaaGreat
