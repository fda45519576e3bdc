/- each: Wait: contracts. -/
import Derived.Test.YtihgfklajhhikaaEachEnt
import Derived.Test.YtihgfklajhhikaaDomPlain
namespace Go.Lf
theorem shl_one {v : Nat} (hv : v < 64) : Go.bits .or .u64 0 (IntKind.u64.wrap (2 ^ v : Int)) = (2 ^ v : Int) := by
  have := bits_or_u64 (a := 0) (b := 2 ^ v) (by decide) (pow_lt64 hv)
  rw [wrap_pow hv]
  simpa using this
theorem and_one {v s : Nat} (hv : v < 64) (hs : s < 18446744073709551616) : (Go.bits .and .u64 (2 ^ v : Int) (s : Int) == 0) = !s.testBit v := by
  rw [show (2 ^ v : Int) = ((2 ^ v : Nat) : Int) by simp, bits_and_u64 (pow_lt64 hv) hs]
  cases h : s.testBit v with
  | true =>
    have h1 : (2 ^ v &&& s).testBit v = true := by rw [Nat.testBit_and, Nat.testBit_two_pow_self, h]; rfl
    have h2 : 2 ^ v &&& s ≠ 0 := fun e => by rw [e] at h1; simp at h1
    exact beq_eq_false_iff_ne.2 (by omega)
  | false =>
    have h2 : 2 ^ v &&& s = 0 := by
      apply Nat.eq_of_testBit_eq
      intro i
      rw [Nat.testBit_and, Nat.testBit_two_pow, Nat.zero_testBit]
      by_cases e : v = i
      · subst e; rw [h, Bool.and_false]
      · rw [decide_eq_false e, Bool.false_and]
    rw [h2]
    rfl
theorem conc_nat (s v : Nat) (hv : v < 64) : conc (s : Int) (v : Int) = s.testBit v := by
  unfold conc
  rw [decide_eq_true (by omega)]
  simp
end Go.Lf
namespace Go.Proofs.Ytihgfklajhhikaa
open Go.RowKit Go.Lf

def EWaitAt (w : World) (wb g : Nat) (t set : Int) (s : EWS) : Prop :=
  w.heap[wb]? = some (.cells #[.pointer (some ⟨g, 0, none⟩), .int .i64 t, .int .u64 set, .int .i64 s.pos, .int .u64 s.seen, .int .i64 s.st] 177 (0, 0))
section
variable {w : World} {g sb cb mb : Nat} {F : Nat → Prop} {base : Int} {sl : List (Int × Bool)} {ws : List Int} {log : List Acc} {wb : Nat} {t set : Int} {s : EWS}
theorem EWaitAt.cells (h : EWaitAt w wb g t set s) : w.cell? ⟨wb, 0, none⟩ = some (.pointer (some ⟨g, 0, none⟩)) ∧ w.cell? ⟨wb, 1, none⟩ = some (.int .i64 t) ∧ w.cell? ⟨wb, 2, none⟩ = some (.int .u64 set) ∧ w.cell? ⟨wb, 3, none⟩ = some (.int .i64 s.pos) ∧ w.cell? ⟨wb, 4, none⟩ = some (.int .u64 s.seen) ∧ w.cell? ⟨wb, 5, none⟩ = some (.int .i64 s.st) := by
  refine ⟨?_, ?_, ?_, ?_, ?_, ?_⟩ <;> (rw [cell_of h]; rfl)

set_option maxHeartbeats 1000000 in
theorem eset_one (b u : Nat) (hu : u < 64) (hc : w.cell? ⟨b, 0, none⟩ = some (.int .i64 u)) :
    Calls Try.prog 113 #[.slice (some ⟨b, 0, none⟩) 1 1] w fun e w' => e = .returned (.tuple #[.int .u64 (2 ^ u : Int), .int .i64 0]) ∧ w = w' := by
  have so := shl_one hu
  have d1 : decide ((u : Int) < 0) = false := decide_eq_false (by omega)
  have d2 : decide (64 ≤ (u : Int)) = false := decide_eq_false (by omega)
  have SO := hid so
  clear so
  go_enter Try.func113, Try.ntmps113
  go_wp2
  go_loop [4, 9] (fun z i => (i = .int .i64 0 ∧ z = .int .u64 0) ∨ (i = .int .i64 1 ∧ z = .int .u64 (2 ^ u : Int))) (fun _ i => 1 - (intOf i).toNat)
  case atStart => exact .inl ⟨rfl, rfl⟩
  case round =>
    rcases hrel with ⟨rfl, rfl⟩ | ⟨rfl, rfl⟩
    · go_wp2
      go_round
      case rel => exact .inr ⟨by first | rfl | trivial | go_num, by rw [SO.out]⟩
      case measure => first | (simp [intOf]; done) | (simp [intOf]; omega)
    · go_wp2
      go_ret2
      exact ⟨rfl, rfl⟩

/-- A new wait. -/
def EWaitTo (w : World) (g : Nat) (t set : Int) (e : Ending) (w' : World) : Prop :=
  e = .returned (.tuple #[.pointer (some ⟨w.heap.size, 0, none⟩), .int .i64 0]) ∧ EWaitAt w' w.heap.size g t set ⟨0, 0, 0⟩ ∧ Keep Nil w w' ∧ w'.heap.size = w.heap.size + 1
set_option maxHeartbeats 1000000 in
theorem ewait_ok (t0 : 0 ≤ t) (t1 : t < 64) (hx : set ≠ 0) : Calls Try.prog 37 #[.pointer (some ⟨g, 0, none⟩), .int .i64 t, .int .u64 set] w (EWaitTo w g t set) := by
  have HT := hid (@ethread_ok w g t t0 t1)
  have d1 : (set == 0) = false := beq_eq_false_iff_ne.2 hx
  clear hx
  go_enter Try.func37, Try.ntmps37
  go_wp2_with fail
  refine HT.out.mono ?_
  rintro e w' ⟨rfl, rfl⟩
  go_wp2
  go_ret2
  exact ⟨rfl, heap_alloc_new w _, (Keep.refl Nil w).alloc _, by simp⟩
set_option maxHeartbeats 1000000 in
theorem ewait_thread {p : Value} {e0 : Int} (hs : Calls Try.prog 74 #[p, .int .i64 t] w fun e w' => e = .returned (.int .i64 e0) ∧ w = w') (h0 : e0 ≠ 0) :
    Calls Try.prog 37 #[p, .int .i64 t, .int .u64 set] w fun e w' => e = .returned (.tuple #[.pointer none, .int .i64 e0]) ∧ w = w' := by
  have HS := hid hs
  have d1 : (e0 != 0) = true := bne_iff_ne.2 h0
  clear hs h0
  go_enter Try.func37, Try.ntmps37
  go_wp2_with fail
  refine HS.out.mono ?_
  rintro e w' ⟨rfl, rfl⟩
  go_wp2
  go_ret2
  exact ⟨rfl, rfl⟩
set_option maxHeartbeats 1000000 in
theorem ewait_zero (g : Nat) (t0 : 0 ≤ t) (t1 : t < 64) : Calls Try.prog 37 #[.pointer (some ⟨g, 0, none⟩), .int .i64 t, .int .u64 0] w fun e w' => e = .returned (.tuple #[.pointer none, .int .i64 2]) ∧ w = w' := by
  have HT := hid (@ethread_ok w g t t0 t1)
  go_enter Try.func37, Try.ntmps37
  go_wp2_with fail
  refine HT.out.mono ?_
  rintro e w' ⟨rfl, rfl⟩
  go_wp2
  go_ret2
  exact ⟨rfl, rfl⟩

/-- A wait has turned, and nothing else. -/
def EWNextTo (w : World) (wb g : Nat) (t set : Int) (s : EWS) (e : Ending) (w' : World) : Prop := e = .returned (.tuple #[]) ∧ EWaitAt w' wb g t set s ∧ Keep (fun k => k = wb) w w'
set_option maxRecDepth 100000 in
set_option maxHeartbeats 2000000 in
theorem ewnext_do (h : EEngAt w g sb cb mb base sl) (hw : EWaitAt w wb g t set s) (hp : s.pos < 1000000) :
    Calls Try.prog 112 #[.pointer (some ⟨wb, 0, none⟩)] w (EWNextTo w wb g t set (s.next sl.length)) := by
  obtain ⟨c0, c1, c2, c3, c4, c5⟩ := hw.cells
  obtain ⟨k0, k1, k2, k3⟩ := h.cells
  have e1 : wb ≠ g := type_ne hw h.head (by decide)
  have z3 : w.frozen? ⟨wb, 3, none⟩ = false := free_of hw 3
  have z5 : w.frozen? ⟨wb, 5, none⟩ = false := free_of hw 5
  have H := hid h
  have W0 := hid hw
  have E1 := hid e1
  have hst : s.next sl.length = if s.pos + 1 = sl.length then { s with pos := s.pos + 1, st := 3 } else { s with pos := s.pos + 1, st := 0 } := rfl
  obtain ⟨s', hs'⟩ : ∃ s', s' = s.next sl.length := ⟨_, rfl⟩
  rw [← hs'] at hst ⊢
  obtain ⟨pos, st, seen⟩ := s
  simp only at c3 c5 hp hst
  have HST := hid hst
  clear h hw c1 c2 c4 k0 k2 k3 e1 hs' hst
  go_enter Try.func112, Try.ntmps112
  go_wp2
  obtain ⟨W, hW⟩ : ∃ W, W = (w.setCell ⟨wb, 3, none⟩ (.int .i64 ((pos : Int) + 1))).setCell ⟨wb, 5, none⟩ (.int .i64 0) := ⟨_, rfl⟩
  rw [← hW]
  have kW : Keep (fun k => k = wb) w W := by rw [hW]; exact Keep.setCell (Keep.setCell (Keep.refl (fun k => k = wb) w) (.inl rfl) _) (.inl rfl) _
  have aW : EWaitAt W wb g t set ⟨pos + 1, 0, seen⟩ := by
    rw [hW]
    exact set_same (set_same W0.out _) _
  obtain ⟨a0, a1, a2, a3, a4, a5⟩ := aW.cells
  simp only at a3 a5
  have g1 := kW.cell k1 (fun h => E1.out h.symm)
  have z5' : W.frozen? ⟨wb, 5, none⟩ = false := free_of aW 5
  have KW := hid kW
  have AW := hid aW
  clear hW c0 c3 c5 k1 z3 z5 aW kW a1 a2 a4
  have hcast : ((pos + 1 : Nat) : Int) = (pos : Int) + 1 := by omega
  rw [hcast] at a3
  clear hcast
  by_cases hl : pos + 1 = sl.length
  · have d1 : ((pos : Int) + 1 == (sl.length : Int)) = true := beq_iff_eq.2 (by omega)
    have hsv := hid (HST.out.trans (if_pos hl))
    clear hl
    go_quiet (fail)
    go_wp2
    go_end0
    rw [hsv.out]
    exact ⟨rfl, set_same (show (W.drewN nq).heap[wb]? = _ from AW.out) _, Keep.setCell (KW.out.drewN nq) (.inl rfl) _⟩
  · have d1 : ((pos : Int) + 1 == (sl.length : Int)) = false := beq_eq_false_iff_ne.2 (by omega)
    have hsv := hid (HST.out.trans (if_neg hl))
    clear hl
    go_quiet (fail)
    go_wp2
    go_end0
    rw [hsv.out]
    exact ⟨rfl, AW.out, KW.out.drewN nq⟩

/-- A wait has made a step. -/
def EWDoTo (w : World) (g sb cb mb : Nat) (F : Nat → Prop) (base : Int) (sl : List (Int × Bool)) (ws : List Int) (log : List Acc) (wb : Nat) (t set : Int) (s : EWS) (w' : World) : Prop :=
  ∃ F', ESys w' g sb cb mb F' base sl ws log ∧ EWaitAt w' wb g t set s ∧ Keep (fun k => F k ∨ k = wb) w w' ∧ Foot w F F' ∧ ¬ F' wb
def EWStepTo (w : World) (g sb cb mb : Nat) (F : Nat → Prop) (base : Int) (sl : List (Int × Bool)) (ws : List Int) (log : List Acc) (wb : Nat) (t set pc : Int) (s : EWS) (e : Ending) (w' : World) : Prop :=
  e = .returned (.tuple #[.int .u8 pc, .bool (s.st == 3)]) ∧ EWDoTo w g sb cb mb F base sl ws log wb t set s w'

theorem ewdo_mk {w1 w2 : World} {F1 : Nat → Prop} {log' : List Acc} {s' : EWS} (h : ESys w g sb cb mb F base sl ws log) (hw : EWaitAt w wb g t set s) (hF : ¬ F wb) (m1 : MemAt w1 mb F1 ws log') (k1 : Keep F w.drew w1) (f1 : Foot w.drew F F1) (l2 : EWaitAt w2 wb g t set s') (k2 : Keep (fun k => k = wb) w1 w2) :
    EWDoTo w g sb cb mb F base sl ws log' wb t set s' w2 := by
  have lw := lt_of_block hw
  have e1 : wb ≠ g := type_ne hw h.eng.head (by decide)
  have e2 : wb ≠ sb := type_ne hw h.eng.slots (by decide)
  have e3 : wb ≠ cb := type_ne hw h.eng.cap (by decide)
  have n1 : ∀ b : Nat, ¬ F b → b < w.heap.size → ¬ F1 b := fun b hb hl hF' => (f1 b hF').elim hb (fun h => by simp at h; omega)
  have nw := n1 wb hF lw
  have k0 : Keep F w w1 := ((Keep.refl F w).drew).trans k1 (fun _ _ h => h)
  refine ⟨F1, ⟨m1.keep k2 (fun k hk e => nw (by rw [← e]; exact hk)), (h.eng.keep k0 h.f1 h.f2 h.f3).keep k2 (fun e => e1 e.symm) (fun e => e2 e.symm) (fun e => e3 e.symm), n1 g h.f1 (lt_of_block h.eng.head), n1 sb h.f2 (lt_of_block h.eng.slots), n1 cb h.f3 (lt_of_block h.eng.cap)⟩, l2, ?_, fun k hk => (f1 k hk).elim .inl (fun h => .inr (by simpa using h)), nw⟩
  exact (k0.mono (T := fun k => F k ∨ k = wb) (fun _ _ h => .inl h)).trans (k2.mono (T := fun k => F k ∨ k = wb) (fun _ _ h => .inr h)) (fun _ _ h => h)
theorem EWDoTo.quiet {w0 w1 w2 : World} (h : EWDoTo w0 g sb cb mb F base sl ws log wb t set s w1) (k0 : Keep Nil w w0) (k2 : Keep Nil w1 w2) : EWDoTo w g sb cb mb F base sl ws log wb t set s w2 := by
  obtain ⟨F', h1, h2, h3, h4, h5⟩ := h
  exact ⟨F', h1.quiet k2, k2.at h2 (fun h => h), ((k0.mono (T := fun k => F k ∨ k = wb) (fun _ _ h => h.elim)).trans h3 (fun _ _ h => h)).trans k2 (fun _ _ h => h.elim), fun k hk => (h4 k hk).elim .inl (fun h => .inr (by have := k0.size; omega)), h5⟩

theorem elook_set (hL : EWaitAt w wb g t set s) (hG : EEngAt w g sb cb mb base sl) (x : Int) : EWaitAt (w.setCell ⟨wb, 4, none⟩ (.int .u64 x)) wb g t set ⟨s.pos, s.st, x⟩ ∧ EEngAt (w.setCell ⟨wb, 4, none⟩ (.int .u64 x)) g sb cb mb base sl ∧ Keep (fun k => k = wb) w (w.setCell ⟨wb, 4, none⟩ (.int .u64 x)) := by
  have kW : Keep (fun k => k = wb) w (w.setCell ⟨wb, 4, none⟩ (.int .u64 x)) := Keep.setCell (Keep.refl (fun k => k = wb) w) (.inl rfl) _
  have e1 : wb ≠ g := type_ne hL hG.head (by decide)
  have e2 : wb ≠ sb := type_ne hL hG.slots (by decide)
  have e3 : wb ≠ cb := type_ne hL hG.cap (by decide)
  exact ⟨set_same hL _, hG.keep kW (fun e => e1 e.symm) (fun e => e2 e.symm) (fun e => e3 e.symm), kW⟩
set_option maxRecDepth 100000 in
set_option maxHeartbeats 8000000 in
theorem elook_do (h : ESys w g sb cb mb F base sl ws log) (hw : EWaitAt w wb g t set s) (hF : ¬ F wb) (hp : s.pos < 1000000) (hst : s.st = 0) (x : Int) (x0 : 0 ≤ x) (t0 : 0 ≤ t) (t1 : t < 64) (b0 : 0 ≤ base) (b1 : base < 1000000) (hx : ws[(base + 2 * s.pos).toNat]? = some x) (hlog : log.length < 1000000000000) :
    Calls Try.prog 75 #[.pointer (some ⟨wb, 0, none⟩)] w fun e w' => e = .returned (.int .u8 17) ∧ EWDoTo w g sb cb mb F base sl ws (log ++ [⟨t, base + 2 * s.pos, 1, x, x, false⟩]) wb t set (s.step sl.length set x) w' := by
  obtain ⟨c0, c1, c2, c3, c4, c5⟩ := hw.cells
  obtain ⟨k0, k1, k2, k3⟩ := h.eng.cells
  have H := hid h
  have HW := hid hw
  have HF := hid hF
  have HX := hid hx
  have KD := hid ((Keep.refl Nil w).drew)
  have K3 := hid k3
  have HST := hid hst
  have HS := hid (s.step_cases set x sl.length)
  obtain ⟨s', hs'⟩ : ∃ s', s' = s.step sl.length set x := ⟨_, rfl⟩
  rw [← hs'] at HS ⊢
  clear h hw hF hx hst hs' k1 c2 c5 k3 c4
  go_enter Try.func75, Try.ntmps75
  go_wp2
  go_region_held3 (fun w' => w'.cell? ⟨wb, 0, none⟩ = some (.pointer (some ⟨g, 0, none⟩)) ∧ w'.cell? ⟨wb, 1, none⟩ = some (.int .i64 t) ∧ w'.cell? ⟨wb, 3, none⟩ = some (.int .i64 s.pos) ∧ w'.cell? ⟨g, 0, none⟩ = some (.pointer (some ⟨mb, 0, none⟩)) ∧ w'.cell? ⟨g, 2, none⟩ = some (.func (.func 68) #[] #[.pointer (some ⟨cb, 0, none⟩)])) (go_keep)
    (first
      | (go_at_call 68; (with_reducible refine (eat_ok (KD.out.cell K3.out (fun h => h)) b0 b1 s.pos hp).mono ?_); rintro e w1 ⟨rfl, rfl⟩)
      | (go_at_call 95; (with_reducible refine (load_ok (H.out.mem.keep KD.out (fun _ _ h => h)) t (base + 2 * s.pos) x t0 t1 (by omega) HX.out hlog).mono ?_); rintro e w1 ⟨rfl, F1, hm1, hk1, hf1⟩; have hL1 : EWaitAt w1 wb g t set s := hk1.at (KD.out.at HW.out (fun h => h)) HF.out; have hG1 := (H.out.eng.quiet KD.out).keep hk1 H.out.f1 H.out.f2 H.out.f3; obtain ⟨d0, d1, d2, d3, d4, d5⟩ := hL1.cells; obtain ⟨m0, m1, m2, m3⟩ := hG1.cells; have zf : w1.frozen? ⟨wb, 4, none⟩ = false := free_of hL1 4; obtain ⟨aW, gW, kW⟩ := elook_set hL1 hG1 x; obtain ⟨p0, p1, p2, p3, p4, p5⟩ := aW.cells; obtain ⟨n0, n1, n2, n3⟩ := gW.cells; simp only at p3 p4 p5; have z5 : (w1.setCell ⟨wb, 4, none⟩ (.int .u64 x)).frozen? ⟨wb, 5, none⟩ = false := free_of aW 5; have AW := hid aW; have GW := hid gW; have KW := hid kW; clear aW gW kW p2 n1 n3; have M1 := hid hm1; have K1 := hid hk1; have F1' := hid hf1; have L1 := hid hL1; have G1 := hid hG1; clear hm1 hk1 hf1 hL1 hG1 d2 d5 m1 m3))
  generalize w1.setCell ⟨wb, 4, none⟩ (.int .u64 x) = W at *
  clear d0 d1 d3 d4 m0 m2 zf p0 p1 p3 n0 n2
  by_cases hodd : x % 2 = 1
  · have d1 : (x % 2 == 1) = true := beq_iff_eq.2 hodd
    have hs1 : s' = ⟨s.pos, 1, x⟩ := by
      rcases HS.out with ⟨-, -, c⟩ | ⟨-, b, -⟩ | ⟨a, -⟩ | ⟨a, -⟩ | ⟨a, -⟩ | ⟨a, -⟩
      · exact c
      · exact absurd hodd b
      all_goals (have := HST.out; omega)
    have HS1 := hid hs1
    clear hs1 hodd
    go_wp2
    go_ret
    rw [HS1.out]
    refine ⟨rfl, ewdo_mk H.out HW.out HF.out M1.out K1.out F1'.out (w2 := W.setCell ⟨wb, 5, none⟩ (.int .i64 1)) ?_ (Keep.setCell KW.out (.inl rfl) _)⟩
    exact set_same AW.out _
  · have d1 : (x % 2 == 1) = false := beq_eq_false_iff_ne.2 hodd
    have hs1 : s' = EWS.next sl.length ⟨s.pos, s.st, x⟩ := by
      rcases HS.out with ⟨-, b, -⟩ | ⟨-, -, c⟩ | ⟨a, -⟩ | ⟨a, -⟩ | ⟨a, -⟩ | ⟨a, -⟩
      · exact absurd b hodd
      · exact c
      all_goals (have := HST.out; omega)
    have HS1 := hid hs1
    clear hs1 hodd
    go_wp2_with fail
    refine (ewnext_do GW.out AW.out hp).mono ?_
    rintro e w2 ⟨rfl, hl2, hk2⟩
    have L2 := hid hl2
    have K2 := hid hk2
    clear hl2 hk2
    go_wp2
    go_ret
    rw [HS1.out]
    exact ⟨rfl, ewdo_mk H.out HW.out HF.out M1.out K1.out F1'.out L2.out (KW.out.trans K2.out (fun _ _ h => h))⟩
set_option maxRecDepth 100000 in
set_option maxHeartbeats 8000000 in
theorem eawait_do (h : ESys w g sb cb mb F base sl ws log) (hw : EWaitAt w wb g t set s) (hF : ¬ F wb) (hp : s.pos < 1000000) (hst : 2 ≤ s.st) (x : Int) (t0 : 0 ≤ t) (t1 : t < 64) (b0 : 0 ≤ base) (b1 : base < 1000000) (hx : ws[(base + 2 * s.pos).toNat]? = some x) (hlog : log.length < 1000000000000) :
    Calls Try.prog 77 #[.pointer (some ⟨wb, 0, none⟩)] w fun e w' => e = .returned (.int .u8 17) ∧ EWDoTo w g sb cb mb F base sl ws (log ++ [⟨t, base + 2 * s.pos, 1, x, x, false⟩]) wb t set (s.step sl.length set x) w' := by
  obtain ⟨c0, c1, c2, c3, c4, c5⟩ := hw.cells
  obtain ⟨k0, k1, k2, k3⟩ := h.eng.cells
  have H := hid h
  have HW := hid hw
  have HF := hid hF
  have HX := hid hx
  have KD := hid ((Keep.refl Nil w).drew)
  have K3 := hid k3
  have HST := hid hst
  have HS := hid (s.step_cases set x sl.length)
  obtain ⟨s', hs'⟩ : ∃ s', s' = s.step sl.length set x := ⟨_, rfl⟩
  rw [← hs'] at HS ⊢
  clear h hw hF hx hst hs' k1 c2 c5 k3 c4
  go_enter Try.func77, Try.ntmps77
  go_wp2
  go_region_held3 (fun w' => w'.cell? ⟨wb, 0, none⟩ = some (.pointer (some ⟨g, 0, none⟩)) ∧ w'.cell? ⟨wb, 1, none⟩ = some (.int .i64 t) ∧ w'.cell? ⟨wb, 3, none⟩ = some (.int .i64 s.pos) ∧ w'.cell? ⟨g, 0, none⟩ = some (.pointer (some ⟨mb, 0, none⟩)) ∧ w'.cell? ⟨g, 2, none⟩ = some (.func (.func 68) #[] #[.pointer (some ⟨cb, 0, none⟩)])) (go_keep)
    (first
      | (go_at_call 68; (with_reducible refine (eat_ok (KD.out.cell K3.out (fun h => h)) b0 b1 s.pos hp).mono ?_); rintro e w1 ⟨rfl, rfl⟩)
      | (go_at_call 95; (with_reducible refine (load_ok (H.out.mem.keep KD.out (fun _ _ h => h)) t (base + 2 * s.pos) x t0 t1 (by omega) HX.out hlog).mono ?_); rintro e w1 ⟨rfl, F1, hm1, hk1, hf1⟩; have hL1 : EWaitAt w1 wb g t set s := hk1.at (KD.out.at HW.out (fun h => h)) HF.out; have hG1 := (H.out.eng.quiet KD.out).keep hk1 H.out.f1 H.out.f2 H.out.f3; obtain ⟨d0, d1, d2, d3, d4, d5⟩ := hL1.cells; obtain ⟨m0, m1, m2, m3⟩ := hG1.cells; have M1 := hid hm1; have K1 := hid hk1; have F1' := hid hf1; have L1 := hid hL1; have G1 := hid hG1; clear hm1 hk1 hf1 hL1 hG1 d2 d5 m1 m3))
  by_cases heq : x = s.seen
  · have e1 : (x != s.seen) = false := by simp [heq]
    have hs1 : s' = s := by
      rcases HS.out with ⟨a, -⟩ | ⟨a, -⟩ | ⟨a, -⟩ | ⟨a, -⟩ | ⟨-, -, c⟩ | ⟨-, b, -⟩
      · have := HST.out; omega
      · have := HST.out; omega
      · have := HST.out; omega
      · have := HST.out; omega
      · exact c
      · exact absurd heq b
    have HS1 := hid hs1
    clear hs1 heq
    go_wp2
    go_ret
    rw [HS1.out]
    exact ⟨rfl, ewdo_mk H.out HW.out HF.out M1.out K1.out F1'.out L1.out (Keep.refl _ _)⟩
  · have e1 : (x != s.seen) = true := by simp [heq]
    have hs1 : s' = s.next sl.length := by
      rcases HS.out with ⟨a, -⟩ | ⟨a, -⟩ | ⟨a, -⟩ | ⟨a, -⟩ | ⟨-, b, -⟩ | ⟨-, -, c⟩
      · have := HST.out; omega
      · have := HST.out; omega
      · have := HST.out; omega
      · have := HST.out; omega
      · exact absurd b heq
      · exact c
    have HS1 := hid hs1
    clear hs1 heq
    go_wp2_with fail
    refine (ewnext_do G1.out L1.out hp).mono ?_
    rintro e w2 ⟨rfl, hl2, hk2⟩
    have L2 := hid hl2
    have K2 := hid hk2
    clear hl2 hk2
    go_wp2
    go_ret
    rw [HS1.out]
    exact ⟨rfl, ewdo_mk H.out HW.out HF.out M1.out K1.out F1'.out L2.out K2.out⟩
end
end Go.Proofs.Ytihgfklajhhikaa
