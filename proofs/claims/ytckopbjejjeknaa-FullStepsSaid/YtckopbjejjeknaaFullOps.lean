/- full: the methods of the engine, of Enter and of Wait: contracts. -/
import Derived.Test.YtckopbjejjeknaaFull
import Derived.Test.YtckopbjejjeknaaFuncNil
import Derived.StillTailTactics
namespace Go.Lf
/-- A wait: its slot, what it does next (0 looks, 1 looks again, 2 nothing), the odd number. -/
structure WS where
  pos : Nat
  st : Nat
  first : Int
def WS.next (n : Nat) (s : WS) : WS := if s.pos + 1 = n then { s with pos := s.pos + 1, st := 2 } else { s with pos := s.pos + 1, st := 0 }
def WS.step (n : Nat) (x : Int) (s : WS) : WS := if s.st = 0 then (if x % 2 = 0 then s.next n else { s with st := 1, first := x }) else if x = s.first then s else s.next n
end Go.Lf
namespace Go.Proofs.Ytckopbjejjeknaa
open Go.RowKit Go.Lf

theorem fe_eqf (w : World) (f : Fn) (x y : Array Value) : (binOp .eql 57 (.func f x y) .nilFunc).run Try.prog w = .ok (.bool false) w := run_eql_func w Try.underlying57 f x y
theorem fe_eqn (w : World) : (binOp .eql 57 .nilFunc .nilFunc).run Try.prog w = .ok (.bool true) w := run_eql_nilf w Try.underlying57
theorem fw_eqf (w : World) (f : Fn) (x y : Array Value) : (binOp .eql 119 (.func f x y) .nilFunc).run Try.prog w = .ok (.bool false) w := run_eql_func w Try.underlying119 f x y
theorem fw_eqn (w : World) : (binOp .eql 119 .nilFunc .nilFunc).run Try.prog w = .ok (.bool true) w := run_eql_nilf w Try.underlying119
attribute [local go_sem] fe_eqf fe_eqn fw_eqf fw_eqn

/-- The engine and its memory. -/
structure FSys (w : World) (g nb bb mb : Nat) (F : Nat → Prop) (base : Int) (nums : List Int) (beg : List Bool) (ws : List Int) (log : List Acc) : Prop where
  mem : MemAt w mb F ws log
  eng : EngAt w g nb bb mb base nums beg
  f1 : ¬ F g
  f2 : ¬ F nb
  f3 : ¬ F bb
def FSysTo (w : World) (g nb bb mb : Nat) (F : Nat → Prop) (base : Int) (nums : List Int) (beg : List Bool) (ws : List Int) (log : List Acc) (w' : World) : Prop :=
  ∃ F', FSys w' g nb bb mb F' base nums beg ws log ∧ Keep (fun k => F k ∨ k = nb ∨ k = bb) w w' ∧ Foot w F F'

section
variable {w : World} {g nb bb mb : Nat} {F : Nat → Prop} {base : Int} {nums : List Int} {beg : List Bool} {ws : List Int} {log : List Acc}
theorem FSys.keep {w' : World} {S : Nat → Prop} (h : FSys w g nb bb mb F base nums beg ws log) (hk : Keep S w w') (hd : ∀ k, F k → ¬ S k) (h1 : ¬ S g) (h2 : ¬ S nb) (h3 : ¬ S bb) : FSys w' g nb bb mb F base nums beg ws log :=
  ⟨h.mem.keep hk hd, h.eng.keep hk h1 h2 h3, h.f1, h.f2, h.f3⟩

set_option maxHeartbeats 400000 in
theorem fthread_nil (t : Int) : Calls Try.prog 70 #[.pointer none, .int .i64 t] w fun e w' => e = .returned (.int .i64 1) ∧ w = w' := by
  go_enter Try.func70, Try.ntmps70
  go_wp2
  go_ret
  exact ⟨rfl, rfl⟩
set_option maxHeartbeats 400000 in
theorem fthread_no (g : Nat) (t : Int) (h : t < 0 ∨ 64 ≤ t) : Calls Try.prog 70 #[.pointer (some ⟨g, 0, none⟩), .int .i64 t] w fun e w' => e = .returned (.int .i64 2) ∧ w = w' := by
  by_cases h1 : t < 0
  · have d1 : decide (t < 0) = true := decide_eq_true h1
    clear h h1
    go_enter Try.func70, Try.ntmps70
    go_wp2
    go_ret
    exact ⟨rfl, rfl⟩
  · have d1 : decide (t < 0) = false := decide_eq_false h1
    have d2 : decide (64 ≤ t) = true := decide_eq_true (by omega)
    clear h h1
    go_enter Try.func70, Try.ntmps70
    go_wp2
    go_ret
    exact ⟨rfl, rfl⟩
set_option maxHeartbeats 400000 in
theorem fthread_ok (g : Nat) (t : Int) (h0 : 0 ≤ t) (h1 : t < 64) : Calls Try.prog 70 #[.pointer (some ⟨g, 0, none⟩), .int .i64 t] w fun e w' => e = .returned (.int .i64 0) ∧ w = w' := by
  have d1 : decide (t < 0) = false := decide_eq_false (by omega)
  have d2 : decide (64 ≤ t) = false := decide_eq_false (by omega)
  go_enter Try.func70, Try.ntmps70
  go_wp2
  go_ret
  exact ⟨rfl, rfl⟩

set_option maxHeartbeats 400000 in
theorem fslot_nil (t s : Int) : Calls Try.prog 67 #[.pointer none, .int .i64 t, .int .i64 s] w fun e w' => e = .returned (.int .i64 1) ∧ w = w' := by
  go_enter Try.func67, Try.ntmps67
  go_wp2_with fail
  refine (fthread_nil _).mono ?_
  rintro e w' ⟨rfl, rfl⟩
  go_wp2
  go_ret
  exact ⟨rfl, rfl⟩
set_option maxHeartbeats 400000 in
theorem fslot_two (g : Nat) (t s : Int) (h : t < 0 ∨ 64 ≤ t) : Calls Try.prog 67 #[.pointer (some ⟨g, 0, none⟩), .int .i64 t, .int .i64 s] w fun e w' => e = .returned (.int .i64 2) ∧ w = w' := by
  have H := hid h
  clear h
  go_enter Try.func67, Try.ntmps67
  go_wp2_with fail
  refine (fthread_no _ _ H.out).mono ?_
  rintro e w' ⟨rfl, rfl⟩
  go_wp2
  go_ret
  exact ⟨rfl, rfl⟩
set_option maxHeartbeats 400000 in
theorem fslot_three (h : EngAt w g nb bb mb base nums beg) (t s : Int) (h0 : 0 ≤ t) (h1 : t < 64) (hs : s < 0 ∨ (nums.length : Int) ≤ s) : Calls Try.prog 67 #[.pointer (some ⟨g, 0, none⟩), .int .i64 t, .int .i64 s] w fun e w' => e = .returned (.int .i64 3) ∧ w = w' := by
  obtain ⟨c0, c1, c2, c3⟩ := h.cells
  have HT := hid (@fthread_ok w g t h0 h1)
  clear h c0 c1 c3
  by_cases h2 : s < 0
  · have d1 : decide (s < 0) = true := decide_eq_true h2
    clear hs h2
    go_enter Try.func67, Try.ntmps67
    go_wp2_with fail
    refine HT.out.mono ?_
    rintro e w' ⟨rfl, rfl⟩
    go_wp2
    go_ret
    exact ⟨rfl, rfl⟩
  · have d1 : decide (s < 0) = false := decide_eq_false h2
    have d2 : decide ((nums.length : Int) ≤ s) = true := decide_eq_true (by omega)
    clear hs h2
    go_enter Try.func67, Try.ntmps67
    go_wp2_with fail
    refine HT.out.mono ?_
    rintro e w' ⟨rfl, rfl⟩
    go_wp2
    go_ret
    exact ⟨rfl, rfl⟩
set_option maxHeartbeats 400000 in
theorem fslot_ok (h : EngAt w g nb bb mb base nums beg) (t s : Int) (h0 : 0 ≤ t) (h1 : t < 64) (s0 : 0 ≤ s) (s1 : s < (nums.length : Int)) : Calls Try.prog 67 #[.pointer (some ⟨g, 0, none⟩), .int .i64 t, .int .i64 s] w fun e w' => e = .returned (.int .i64 0) ∧ w = w' := by
  obtain ⟨c0, c1, c2, c3⟩ := h.cells
  have HT := hid (@fthread_ok w g t h0 h1)
  have d1 : decide (s < 0) = false := decide_eq_false (by omega)
  have d2 : decide ((nums.length : Int) ≤ s) = false := decide_eq_false (by omega)
  clear h c0 c1 c3
  go_enter Try.func67, Try.ntmps67
  go_wp2_with fail
  refine HT.out.mono ?_
  rintro e w' ⟨rfl, rfl⟩
  go_wp2
  go_ret
  exact ⟨rfl, rfl⟩

set_option maxRecDepth 100000 in
set_option maxHeartbeats 2000000 in
theorem fadv_ok (h : FSys w g nb bb mb F base nums beg ws log) (t : Int) (i : Nat) (x y : Int) (t0 : 0 ≤ t) (t1 : t < 64) (hx : nums[i]? = some x) (x0 : 0 ≤ x) (x1 : x < 1000000000000) (b0 : 0 ≤ base) (b1 : base < 1000000) (hn : nums.length < 1000000) (hy : ws[(base + i).toNat]? = some y) (hlog : log.length < 1000000000000) :
    Calls Try.prog 69 #[.pointer (some ⟨g, 0, none⟩), .int .i64 t, .int .i64 i] w fun e w' => e = .returned (.tuple #[]) ∧ FSysTo w g nb bb mb F base (nums.set i (x + 1)) beg (ws.set (base + i).toNat (x + 1)) (log ++ [⟨t, base + i, 2, y, x + 1, false⟩]) w' := by
  obtain ⟨c0, c1, c2, c3⟩ := h.eng.cells
  have cx := h.eng.num hx
  have l0 := lt_of_at hx
  have zf : w.frozen? ⟨nb, i, none⟩ = false := free_of h.eng.hnums i
  have H := hid h
  have hw : IntKind.u64.wrap (x + 1) = x + 1 := by rw [IntKind.wrap_u64]; omega
  have HY := hid hy
  have HX := hid hx
  have hgn := h.eng.n1
  clear h hy hx c3
  go_enter Try.func69, Try.ntmps69
  go_wp2
  obtain ⟨W, hW⟩ : ∃ W, W = w.setCell ⟨nb, i, none⟩ (.int .u64 (x + 1)) := ⟨_, rfl⟩
  rw [← hW]
  have kW : Keep (fun k => k = nb) w W := by rw [hW]; exact Keep.setCell (Keep.refl (fun k => k = nb) w) (.inl rfl) _
  have eW : EngAt W g nb bb mb base (nums.set i (x + 1)) beg := by
    refine ⟨?_, ?_, kW.at H.out.eng.hbeg (fun e => H.out.eng.n3 e.symm), by simp [H.out.eng.len], H.out.eng.n1, H.out.eng.n2, H.out.eng.n3⟩
    · rw [List.length_set]; exact kW.at H.out.eng.head hgn
    · rw [hW, set_same H.out.eng.hnums, ← u64s_set]; simp
  have mW : MemAt W mb F ws log := H.out.mem.keep kW (fun k hF e => H.out.f2 (by rw [← e]; exact hF))
  obtain ⟨d0, d1, d2, d3⟩ := eW.cells
  have dx := eW.num (i := i) (x := x + 1) (by rw [List.getElem?_set, if_pos rfl, if_pos l0])
  rw [List.length_set] at d2
  have EW := hid eW
  have MW := hid mW
  have KW := hid kW
  clear hW c0 c1 c2 cx zf d3 eW mW kW
  go_still_tail 18, (by kernel_rfl)
  change wpList _ _ _ _ _ W.drew
  go_wp2_with fail
  refine (store_ok (MW.out.keep (Keep.refl Nil W).drew (fun _ _ h => h)) t (base + i) y (x + 1) t0 t1 (by omega) HY.out hlog).mono ?_
  rintro e w2 ⟨rfl, F2, hm2, k2, f2⟩
  have k2' : Keep F W w2 := ((Keep.refl F W).drew).trans k2 (fun _ _ h => h)
  have hs : FSys w2 g nb bb mb F2 base (nums.set i (x + 1)) beg (ws.set (base + i).toNat (x + 1)) (log ++ [⟨t, base + i, 2, y, x + 1, false⟩]) := by
    have n1 : ∀ b : Nat, ¬ F b → b < w.heap.size → ¬ F2 b := fun b hb hl hF => (f2 b hF).elim hb (fun h => by have := KW.out.size; simp at h; omega)
    exact ⟨hm2, EW.out.keep k2' H.out.f1 H.out.f2 H.out.f3, n1 g H.out.f1 (lt_of_block H.out.eng.head), n1 nb H.out.f2 (lt_of_block H.out.eng.hnums), n1 bb H.out.f3 (lt_of_block H.out.eng.hbeg)⟩
  have hk : Keep (fun k => F k ∨ k = nb ∨ k = bb) w w2 := (KW.out.mono (fun _ _ h => .inr (.inl h))).trans (k2'.mono (T := fun k => F k ∨ k = nb ∨ k = bb) (fun _ _ h => .inl h)) (fun _ _ h => h)
  have HS := hid hs
  have HK := hid hk
  have HF := hid (show Foot w F F2 from fun k hF => (f2 k hF).elim .inl (fun h => .inr (by have := KW.out.size; simp at h; omega)))
  clear hm2 k2 f2 k2' hs hk
  go_wp2
  go_end0
  exact ⟨rfl, F2, HS.out, HK.out, HF.out⟩
end
end Go.Proofs.Ytckopbjejjeknaa
