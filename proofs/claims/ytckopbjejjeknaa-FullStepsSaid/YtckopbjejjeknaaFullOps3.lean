/- full: Wait: contracts. -/
import Derived.Test.YtckopbjejjeknaaFullOps2
namespace Go.Proofs.Ytckopbjejjeknaa
open Go.RowKit Go.Lf
attribute [local go_sem] fe_eqf fe_eqn fw_eqf fw_eqn

def waitV (wb : Nat) : Nat → Value
  | 0 => .func (.func 71) #[.pointer (some ⟨wb, 0, none⟩)] #[]
  | 1 => .func (.func 89) #[.pointer (some ⟨wb, 0, none⟩)] #[]
  | _ => .nilFunc
def WaitAt (w : World) (wb g : Nat) (t : Int) (s : WS) : Prop :=
  w.heap[wb]? = some (.cells #[.pointer (some ⟨g, 0, none⟩), .int .i64 t, .int .i64 s.pos, waitV wb s.st, .int .u64 s.first] 149 (0, 0))
section
variable {w : World} {g nb bb mb : Nat} {F : Nat → Prop} {base : Int} {nums : List Int} {beg : List Bool} {ws : List Int} {log : List Acc} {wb : Nat} {t : Int} {s : WS}
theorem WaitAt.cells (h : WaitAt w wb g t s) : w.cell? ⟨wb, 0, none⟩ = some (.pointer (some ⟨g, 0, none⟩)) ∧ w.cell? ⟨wb, 1, none⟩ = some (.int .i64 t) ∧ w.cell? ⟨wb, 2, none⟩ = some (.int .i64 s.pos) ∧ w.cell? ⟨wb, 3, none⟩ = some (waitV wb s.st) ∧ w.cell? ⟨wb, 4, none⟩ = some (.int .u64 s.first) := by
  refine ⟨?_, ?_, ?_, ?_, ?_⟩ <;> (rw [cell_of h]; rfl)

theorem WaitAt.keepW {w' : World} {S : Nat → Prop} (h : WaitAt w wb g t s) (hk : Keep S w w') (hn : ¬ S wb) : WaitAt w' wb g t s := hk.at h hn

/-- A new wait. -/
def FWaitTo (w : World) (g : Nat) (t : Int) (e : Ending) (w' : World) : Prop :=
  e = .returned (.tuple #[.pointer (some ⟨w.heap.size, 0, none⟩), .int .i64 0]) ∧ WaitAt w' w.heap.size g t ⟨0, 0, 0⟩ ∧ Keep Nil w w' ∧ w'.heap.size = w.heap.size + 1
set_option maxHeartbeats 1000000 in
theorem fwait_ok (t0 : 0 ≤ t) (t1 : t < 64) (x : Int) (hx : x ≠ 0) : Calls Try.prog 44 #[.pointer (some ⟨g, 0, none⟩), .int .i64 t, .int .u64 x] w (FWaitTo w g t) := by
  have HT := hid (@fthread_ok w g t t0 t1)
  have d1 : (x == 0) = false := beq_eq_false_iff_ne.2 hx
  clear hx
  go_enter Try.func44, Try.ntmps44
  go_wp2_with fail
  refine HT.out.mono ?_
  rintro e w' ⟨rfl, rfl⟩
  go_wp2
  go_ret2
  exact ⟨rfl, heap_alloc_new w _, (Keep.refl Nil w).alloc _, by simp⟩

/-- A wait has turned, and nothing else. -/
def WNextTo (w : World) (wb g : Nat) (t : Int) (s : WS) (e : Ending) (w' : World) : Prop := e = .returned (.tuple #[]) ∧ WaitAt w' wb g t s ∧ Keep (fun k => k = wb) w w'
set_option maxRecDepth 100000 in
set_option maxHeartbeats 2000000 in
theorem fnext_any (h : EngAt w g nb bb mb base nums beg) (hw : WaitAt w wb g t s) (hp : s.pos < 1000000) :
    Calls Try.prog 88 #[.pointer (some ⟨wb, 0, none⟩)] w (WNextTo w wb g t (s.next nums.length)) := by
  obtain ⟨c0, c1, c2, c3, c4⟩ := hw.cells
  obtain ⟨k0, k1, k2, k3⟩ := h.cells
  have e1 : wb ≠ g := type_ne hw h.head (by decide)
  have z2 : w.frozen? ⟨wb, 2, none⟩ = false := free_of hw 2
  have z3 : w.frozen? ⟨wb, 3, none⟩ = false := free_of hw 3
  have H := hid h
  have W0 := hid hw
  have E1 := hid e1
  obtain ⟨v3, hv3⟩ : ∃ v, v = waitV wb s.st := ⟨_, rfl⟩
  rw [← hv3] at c3
  have hst : s.next nums.length = if s.pos + 1 = nums.length then { s with pos := s.pos + 1, st := 2 } else { s with pos := s.pos + 1, st := 0 } := rfl
  obtain ⟨s', hs'⟩ : ∃ s', s' = s.next nums.length := ⟨_, rfl⟩
  rw [← hs'] at hst ⊢
  obtain ⟨pos, st, first⟩ := s
  simp only at c2 hp hst
  have HST := hid hst
  clear h hw c1 c4 k0 k1 k3 e1 hs' hst hv3
  go_enter Try.func88, Try.ntmps88
  go_wp2
  obtain ⟨W, hW⟩ : ∃ W, W = (w.setCell ⟨wb, 2, none⟩ (.int .i64 ((pos : Int) + 1))).setCell ⟨wb, 3, none⟩ (.func (.func 71) #[.pointer (some ⟨wb, 0, none⟩)] #[]) := ⟨_, rfl⟩
  rw [← hW]
  have kW : Keep (fun k => k = wb) w W := by rw [hW]; exact Keep.setCell (Keep.setCell (Keep.refl (fun k => k = wb) w) (.inl rfl) _) (.inl rfl) _
  have aW : WaitAt W wb g t ⟨pos + 1, 0, first⟩ := by
    rw [hW]
    exact set_same (set_same W0.out _) _
  obtain ⟨a0, a1, a2, a3, a4⟩ := aW.cells
  simp only [waitV] at a2 a3
  have g2 := kW.cell k2 (fun h => E1.out h.symm)
  have z3' : W.frozen? ⟨wb, 3, none⟩ = false := free_of aW 3
  have KW := hid kW
  have AW := hid aW
  clear hW c0 c2 c3 k2 z2 z3 aW kW a1 a4
  have hcast : ((pos + 1 : Nat) : Int) = (pos : Int) + 1 := by omega
  rw [hcast] at a2
  clear hcast
  by_cases hl : pos + 1 = nums.length
  · have d1 : ((pos : Int) + 1 == (nums.length : Int)) = true := beq_iff_eq.2 (by omega)
    have hsv := hid (HST.out.trans (if_pos hl))
    clear hl
    go_quiet (fail)
    go_wp2
    go_end0
    rw [hsv.out]
    exact ⟨rfl, set_same (show (W.drewN nq).heap[wb]? = _ from AW.out) _, Keep.setCell (KW.out.drewN nq) (.inl rfl) _⟩
  · have d1 : ((pos : Int) + 1 == (nums.length : Int)) = false := beq_eq_false_iff_ne.2 (by omega)
    have hsv := hid (HST.out.trans (if_neg hl))
    clear hl
    go_quiet (fail)
    go_wp2
    go_end0
    rw [hsv.out]
    exact ⟨rfl, AW.out, KW.out.drewN nq⟩

/-! look, again. -/
set_option maxRecDepth 100000 in
set_option maxHeartbeats 2000000 in
theorem flook_any (h : EngAt w g nb bb mb base nums beg) (hw : WaitAt w wb g t s) (hp : s.pos < 1000000) (hst : s.st = 0) (x : Int) (x0 : 0 ≤ x) :
    Calls Try.prog 71 #[.pointer (some ⟨wb, 0, none⟩), .int .u64 x] w (WNextTo w wb g t (s.step nums.length x)) := by
  have hs : s.step nums.length x = if x % 2 = 0 then s.next nums.length else { s with st := 1, first := x } := if_pos hst
  have HN := hid (fnext_any h hw hp)
  obtain ⟨s', hs'⟩ : ∃ s', s' = s.step nums.length x := ⟨_, rfl⟩
  rw [← hs'] at hs ⊢
  obtain ⟨c0, c1, c2, c3, c4⟩ := hw.cells
  have z3 : w.frozen? ⟨wb, 3, none⟩ = false := free_of hw 3
  have z4 : w.frozen? ⟨wb, 4, none⟩ = false := free_of hw 4
  rw [hst] at c3
  have W0 := hid hw
  simp only [waitV] at c3
  by_cases hx : x % 2 = 0
  · have d1 : (x % 2 == 0) = true := beq_iff_eq.2 hx
    have HS := hid (hs.trans (if_pos hx))
    clear h hw hst hs hs' hx c0 c1 c2 c3 c4 z3 z4
    rw [HS.out]
    go_enter Try.func71, Try.ntmps71
    go_wp2_with fail
    refine HN.out.mono ?_
    rintro e w1 ⟨rfl, hq⟩
    have HQ := hid hq
    clear hq
    go_wp2
    go_end0
    exact ⟨rfl, HQ.out⟩
  · have d1 : (x % 2 == 0) = false := beq_eq_false_iff_ne.2 hx
    have HS := hid (hs.trans (if_neg hx))
    clear h hw hst hs hs' hx HN
    rw [HS.out]
    go_enter Try.func71, Try.ntmps71
    go_wp2
    go_end0
    exact ⟨rfl, set_same (set_same W0.out _) _, Keep.setCell (Keep.setCell (Keep.refl (fun k => k = wb) w) (.inl rfl) _) (.inl rfl) _⟩
set_option maxRecDepth 100000 in
set_option maxHeartbeats 2000000 in
theorem fagain_any (h : EngAt w g nb bb mb base nums beg) (hw : WaitAt w wb g t s) (hp : s.pos < 1000000) (hst : s.st = 1) (x : Int) :
    Calls Try.prog 89 #[.pointer (some ⟨wb, 0, none⟩), .int .u64 x] w (WNextTo w wb g t (s.step nums.length x)) := by
  have hs : s.step nums.length x = if x = s.first then s else s.next nums.length := if_neg (by rw [hst]; decide)
  have HN := hid (fnext_any h hw hp)
  obtain ⟨s', hs'⟩ : ∃ s', s' = s.step nums.length x := ⟨_, rfl⟩
  rw [← hs'] at hs ⊢
  have c4 := hw.cells.2.2.2.2
  have W0 := hid hw
  by_cases hx : x = s.first
  · have d1 : (x != s.first) = false := by simp [hx]
    have HS := hid (hs.trans (if_pos hx))
    clear h hw hst hs hs' hx HN
    rw [HS.out]
    go_enter Try.func89, Try.ntmps89
    go_wp2
    go_end0
    exact ⟨rfl, W0.out, Keep.refl _ _⟩
  · have d1 : (x != s.first) = true := by simp [hx]
    have HS := hid (hs.trans (if_neg hx))
    clear h hw hst hs hs' hx
    rw [HS.out]
    go_enter Try.func89, Try.ntmps89
    go_wp2_with fail
    refine HN.out.mono ?_
    rintro e w1 ⟨rfl, hq⟩
    have HQ := hid hq
    clear hq
    go_wp2
    go_end0
    exact ⟨rfl, HQ.out⟩
theorem fwv_eq (w : World) (wb k : Nat) : (binOp .eql 119 (waitV wb k) .nilFunc).run Try.prog w = .ok (.bool (decide (2 ≤ k))) w := by
  match k with
  | 0 => exact fw_eqf w _ _ _
  | 1 => exact fw_eqf w _ _ _
  | k + 2 => rw [show waitV wb (k + 2) = .nilFunc from rfl, decide_eq_true (by omega)]; exact fw_eqn w
theorem fwv_g (w : World) (t : TypeId) (x y : Operand) (wb k : Nat) : (eqGuard .eql t x y (waitV wb k) .nilFunc).run Try.prog w = .ok () w := by
  match k with
  | 0 => rfl
  | 1 => rfl
  | k + 2 => rfl
attribute [local go_sem] fwv_eq fwv_g

/-- A wait has made a step. -/
def FWStepTo (w : World) (g nb bb mb : Nat) (F : Nat → Prop) (base : Int) (nums : List Int) (beg : List Bool) (ws : List Int) (log : List Acc) (wb : Nat) (t : Int) (s : WS) (e : Ending) (w' : World) : Prop :=
  e = .returned (.tuple #[.int .u8 17, .bool (decide (2 ≤ s.st))]) ∧ ∃ F', FSys w' g nb bb mb F' base nums beg ws log ∧ WaitAt w' wb g t s ∧ Keep (fun k => F k ∨ k = wb) w w' ∧ Foot w F F' ∧ ¬ F' wb

theorem wstep_mk {w1 w2 : World} {F1 : Nat → Prop} {log' : List Acc} {s' : WS} (h : FSys w g nb bb mb F base nums beg ws log) (hw : WaitAt w wb g t s) (hF : ¬ F wb) (lw : wb < w.heap.size) (m1 : MemAt w1 mb F1 ws log') (k1 : Keep F w.drew w1) (f1 : Foot w.drew F F1) (l2 : WaitAt w2 wb g t s') (k2 : Keep (fun k => k = wb) w1 w2) :
    FWStepTo w g nb bb mb F base nums beg ws log' wb t s' (.returned (.tuple #[.int .u8 17, .bool (decide (2 ≤ s'.st))])) w2 := by
  have e1 : wb ≠ g := type_ne hw h.eng.head (by decide)
  have e2 : wb ≠ nb := type_ne hw h.eng.hnums (by decide)
  have e3 : wb ≠ bb := type_ne hw h.eng.hbeg (by decide)
  have n1 : ∀ b : Nat, ¬ F b → b < w.heap.size → ¬ F1 b := fun b hb hl hF' => (f1 b hF').elim hb (fun h => by simp at h; omega)
  have nw := n1 wb hF lw
  have k0 : Keep F w w1 := ((Keep.refl F w).drew).trans k1 (fun _ _ h => h)
  refine ⟨rfl, F1, ⟨m1.keep k2 (fun k hk e => nw (by rw [← e]; exact hk)), (h.eng.keep k0 h.f1 h.f2 h.f3).keep k2 (fun e => e1 e.symm) (fun e => e2 e.symm) (fun e => e3 e.symm), n1 g h.f1 (lt_of_block h.eng.head), n1 nb h.f2 (lt_of_block h.eng.hnums), n1 bb h.f3 (lt_of_block h.eng.hbeg)⟩, l2, ?_, fun k hk => (f1 k hk).elim .inl (fun h => .inr (by simpa using h)), nw⟩
  exact (k0.mono (T := fun k => F k ∨ k = wb) (fun _ _ h => .inl h)).trans (k2.mono (T := fun k => F k ∨ k = wb) (fun _ _ h => .inr h)) (fun _ _ h => h)

set_option maxRecDepth 100000 in
set_option maxHeartbeats 8000000 in
theorem fwait_step (h : FSys w g nb bb mb F base nums beg ws log) (hw : WaitAt w wb g t s) (hF : ¬ F wb) (hp : s.pos < 1000000) (hst : s.st < 2) (x : Int) (x0 : 0 ≤ x) (t0 : 0 ≤ t) (t1 : t < 64) (b0 : 0 ≤ base) (b1 : base < 1000000) (hx : ws[(base + s.pos).toNat]? = some x) (hlog : log.length < 1000000000000) :
    Calls Try.prog 45 #[.pointer (some ⟨wb, 0, none⟩)] w (FWStepTo w g nb bb mb F base nums beg ws (log ++ [⟨t, base + s.pos, 1, x, x, false⟩]) wb t (s.step nums.length x)) := by
  obtain ⟨c0, c1, c2, c3, c4⟩ := hw.cells
  obtain ⟨k0, k1, k2, k3⟩ := h.eng.cells
  have e1 : wb ≠ g := type_ne hw h.eng.head (by decide)
  have e2 : wb ≠ nb := type_ne hw h.eng.hnums (by decide)
  have e3 : wb ≠ bb := type_ne hw h.eng.hbeg (by decide)
  have lw := lt_of_block hw
  have hwr : IntKind.i64.wrap (base + s.pos) = base + s.pos := by rw [IntKind.wrap_i64]; omega
  have HW := hid hw
  have H := hid h
  have HB := hid hF
  have HX := hid hx
  have KD := hid ((Keep.refl Nil w).drew)
  have E1 := hid e1
  have E2 := hid e2
  have E3 := hid e3
  clear h hw hF hx c4 k2 k3 e1 e2 e3
  have hlook : ∀ (v : World), EngAt v g nb bb mb base nums beg → WaitAt v wb g t s → s.st = 0 → Calls Try.prog 71 #[.pointer (some ⟨wb, 0, none⟩), .int .u64 x] v (WNextTo v wb g t (s.step nums.length x)) := fun v h hw hs => flook_any h hw hp hs x x0
  have hagain : ∀ (v : World), EngAt v g nb bb mb base nums beg → WaitAt v wb g t s → s.st = 1 → Calls Try.prog 89 #[.pointer (some ⟨wb, 0, none⟩), .int .u64 x] v (WNextTo v wb g t (s.step nums.length x)) := fun v h hw hs => fagain_any h hw hp hs x
  have LK := hid hlook
  have AG := hid hagain
  obtain ⟨s', hs'⟩ : ∃ s', s' = s.step nums.length x := ⟨_, rfl⟩
  rw [← hs'] at LK AG ⊢
  clear hlook hagain hs'
  by_cases h0 : s.st = 0
  · rw [h0] at c3
    simp only [waitV] at c3
    have H0 := hid h0
    clear h0 hst
    go_enter Try.func45, Try.ntmps45
    go_wp2
    go_region_held3 (fun w' => w'.cell? ⟨wb, 0, none⟩ = some (.pointer (some ⟨g, 0, none⟩)) ∧ w'.cell? ⟨wb, 1, none⟩ = some (.int .i64 t) ∧ w'.cell? ⟨wb, 2, none⟩ = some (.int .i64 s.pos) ∧ w'.cell? ⟨g, 0, none⟩ = some (.pointer (some ⟨mb, 0, none⟩)) ∧ w'.cell? ⟨g, 1, none⟩ = some (.int .i64 base)) (go_keep)
      ((go_at_call 72; (with_reducible refine (load_ok (H.out.mem.keep KD.out (fun _ _ h => h)) t (base + s.pos) x t0 t1 (by omega) HX.out hlog).mono ?_); rintro e w1 ⟨rfl, F1, hm1, hk1, hf1⟩; have hL1 := (HW.out.keepW KD.out (fun h => h)).keepW hk1 HB.out; have hG1 := (H.out.eng.keep KD.out (fun h => h) (fun h => h) (fun h => h)).keep hk1 H.out.f1 H.out.f2 H.out.f3; have d0 := hL1.cells.1; have d1 := hL1.cells.2.1; have d2 := hL1.cells.2.2.1; have d3 := hG1.cells.1; have d4 := hG1.cells.2.1; have M1 := hid hm1; have K1 := hid hk1; have F1' := hid hf1; have L1 := hid hL1; have G1 := hid hG1; clear hm1 hk1 hf1 hL1 hG1))
    have g3 := L1.out.cells.2.2.2.1
    rw [H0.out] at g3
    simp only [waitV] at g3
    go_wp2_with fail
    refine (LK.out w1 G1.out L1.out H0.out).mono ?_
    rintro e w2 ⟨rfl, hl2, hk2⟩
    have g5 := hl2.cells.2.2.2.1
    have L2 := hid hl2
    have K2 := hid hk2
    clear hl2 hk2
    go_wp2
    go_quiet (fail)
    go_wp2
    go_ret2
    exact wstep_mk H.out HW.out HB.out lw M1.out K1.out F1'.out L2.out (K2.out.drewN nq)
  · replace h0 : s.st = 1 := by omega
    rw [h0] at c3
    simp only [waitV] at c3
    have H0 := hid h0
    clear h0 hst
    go_enter Try.func45, Try.ntmps45
    go_wp2
    go_region_held3 (fun w' => w'.cell? ⟨wb, 0, none⟩ = some (.pointer (some ⟨g, 0, none⟩)) ∧ w'.cell? ⟨wb, 1, none⟩ = some (.int .i64 t) ∧ w'.cell? ⟨wb, 2, none⟩ = some (.int .i64 s.pos) ∧ w'.cell? ⟨g, 0, none⟩ = some (.pointer (some ⟨mb, 0, none⟩)) ∧ w'.cell? ⟨g, 1, none⟩ = some (.int .i64 base)) (go_keep)
      ((go_at_call 72; (with_reducible refine (load_ok (H.out.mem.keep KD.out (fun _ _ h => h)) t (base + s.pos) x t0 t1 (by omega) HX.out hlog).mono ?_); rintro e w1 ⟨rfl, F1, hm1, hk1, hf1⟩; have hL1 := (HW.out.keepW KD.out (fun h => h)).keepW hk1 HB.out; have hG1 := (H.out.eng.keep KD.out (fun h => h) (fun h => h) (fun h => h)).keep hk1 H.out.f1 H.out.f2 H.out.f3; have d0 := hL1.cells.1; have d1 := hL1.cells.2.1; have d2 := hL1.cells.2.2.1; have d3 := hG1.cells.1; have d4 := hG1.cells.2.1; have M1 := hid hm1; have K1 := hid hk1; have F1' := hid hf1; have L1 := hid hL1; have G1 := hid hG1; clear hm1 hk1 hf1 hL1 hG1))
    have g3 := L1.out.cells.2.2.2.1
    rw [H0.out] at g3
    simp only [waitV] at g3
    go_wp2_with fail
    refine (AG.out w1 G1.out L1.out H0.out).mono ?_
    rintro e w2 ⟨rfl, hl2, hk2⟩
    have g5 := hl2.cells.2.2.2.1
    have L2 := hid hl2
    have K2 := hid hk2
    clear hl2 hk2
    go_wp2
    go_quiet (fail)
    go_wp2
    go_ret2
    exact wstep_mk H.out HW.out HB.out lw M1.out K1.out F1'.out L2.out (K2.out.drewN nq)
set_option maxHeartbeats 1000000 in
theorem fwait_idle (hw : WaitAt w wb g t s) (hst : 2 ≤ s.st) : Calls Try.prog 45 #[.pointer (some ⟨wb, 0, none⟩)] w fun e w' => e = .returned (.tuple #[.int .u8 0, .bool false]) ∧ w = w' := by
  have c3 := hw.cells.2.2.2.1
  have d1 : decide (2 ≤ s.st) = true := decide_eq_true hst
  clear hw hst
  go_enter Try.func45, Try.ntmps45
  go_wp2
  go_ret2
  exact ⟨rfl, rfl⟩
set_option maxHeartbeats 1000000 in
theorem fwait_nil : Calls Try.prog 45 #[.pointer none] w fun e w' => e = .returned (.tuple #[.int .u8 0, .bool false]) ∧ w = w' := by
  go_enter Try.func45, Try.ntmps45
  go_wp2
  go_ret2
  exact ⟨rfl, rfl⟩
set_option maxHeartbeats 1000000 in
theorem fwnext_live (hw : WaitAt w wb g t s) (hst : s.st < 2) : Calls Try.prog 46 #[.pointer (some ⟨wb, 0, none⟩)] w fun e w' => e = .returned (.int .u8 17) ∧ w = w' := by
  have c3 := hw.cells.2.2.2.1
  have d1 : decide (2 ≤ s.st) = false := decide_eq_false (by omega)
  clear hw hst
  go_enter Try.func46, Try.ntmps46
  go_wp2
  go_ret
  exact ⟨rfl, rfl⟩
set_option maxHeartbeats 1000000 in
theorem fwnext_idle (hw : WaitAt w wb g t s) (hst : 2 ≤ s.st) : Calls Try.prog 46 #[.pointer (some ⟨wb, 0, none⟩)] w fun e w' => e = .returned (.int .u8 0) ∧ w = w' := by
  have c3 := hw.cells.2.2.2.1
  have d1 : decide (2 ≤ s.st) = true := decide_eq_true hst
  clear hw hst
  go_enter Try.func46, Try.ntmps46
  go_wp2
  go_ret
  exact ⟨rfl, rfl⟩
set_option maxHeartbeats 1000000 in
theorem fwnext_nil : Calls Try.prog 46 #[.pointer none] w fun e w' => e = .returned (.int .u8 0) ∧ w = w' := by
  go_enter Try.func46, Try.ntmps46
  go_wp2
  go_ret
  exact ⟨rfl, rfl⟩
end
end Go.Proofs.Ytckopbjejjeknaa
