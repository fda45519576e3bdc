
/- latch: the lock as data; check, New, try, fail, Step, Next, Result, Unlock: contracts. -/
import Derived.Test.YtldjlcdccnnogaaGreatMem
import Derived.Test.YtldjlcdccnnogaaGreatFuncNil
import Derived.Deep.RegionHeld3
import Derived.BigQuiet
namespace Go.Lf
open Go.RowKit
/-- A lock: failures, tries, thread, address; whether it has not ended; its error. -/
structure LS where
  f : Int
  tries : Int
  t : Int
  a : Int
  live : Bool
  e : Int
/-- What a step does at a word. -/
def LS.step (s : LS) (x : Int) : LS := if x = 0 then { s with live := false } else if s.f + 1 = s.tries then { s with f := s.f + 1, live := false, e := 11 } else { s with f := s.f + 1 }
/-- The error of the arguments of an operation on a latch. -/
def lckErr (t a tries : Int) (n : Nat) : Int := if t < 0 ∨ 64 ≤ t ∨ tries < 0 ∨ 255 < tries then 2 else if a < 0 ∨ (n : Int) ≤ a then 3 else 0
theorem lckErr_zero {t a tries : Int} {n : Nat} (h : lckErr t a tries n = 0) : (0 ≤ t ∧ t < 64 ∧ 0 ≤ tries ∧ tries ≤ 255) ∧ 0 ≤ a ∧ a < (n : Int) := by
  unfold lckErr at h
  split at h
  · omega
  · split at h <;> omega
theorem lckErr_ok {t a tries : Int} {n : Nat} (h : 0 ≤ t ∧ t < 64 ∧ 0 ≤ tries ∧ tries ≤ 255) (h' : 0 ≤ a ∧ a < (n : Int)) : lckErr t a tries n = 0 := by
  unfold lckErr; rw [if_neg (by omega), if_neg (by omega)]
end Go.Lf
namespace Go.Proofs.YtldjlcdccnnogaaGreat
open Go.RowKit Go.Lf

theorem f_eqf (w : World) (f : Fn) (x y : Array Value) : (binOp .eql 96 (.func f x y) .nilFunc).run Tryz.prog w = .ok (.bool false) w := run_eql_func w Tryz.underlying96 f x y
theorem f_eqn (w : World) : (binOp .eql 96 .nilFunc .nilFunc).run Tryz.prog w = .ok (.bool true) w := run_eql_nilf w Tryz.underlying96
theorem f_nef (w : World) (f : Fn) (x y : Array Value) : (binOp .neq 96 (.func f x y) .nilFunc).run Tryz.prog w = .ok (.bool true) w := run_neq_func w Tryz.underlying96 f x y
theorem f_nen (w : World) : (binOp .neq 96 .nilFunc .nilFunc).run Tryz.prog w = .ok (.bool false) w := run_neq_nilf w Tryz.underlying96
attribute [local go_sem] f_eqf f_eqn f_nef f_nen

/-- The function value of a lock. -/
def stepV (lb : Nat) : Bool → Value
  | true => .func (.func 172) #[.pointer (some ⟨lb, 0, none⟩)] #[]
  | false => .nilFunc
def LockAt (w : World) (lb mb : Nat) (s : LS) : Prop :=
  w.heap[lb]? = some (.cells #[.int .i64 s.f, .int .i64 s.tries, .pointer (some ⟨mb, 0, none⟩), .int .i64 s.t, .int .i64 s.a, stepV lb s.live, .int .i64 s.e] 315 (0, 0))
theorem LockAt.keep {w w' : World} {lb mb : Nat} {s : LS} {S : Nat → Prop} (h : LockAt w lb mb s) (hk : Keep S w w') (hn : ¬ S lb) : LockAt w' lb mb s := hk.at h hn

section
variable {w : World}
set_option maxHeartbeats 400000 in
theorem lcheck_nil (t a n : Int) : Calls Tryz.prog 171 #[.pointer none, .int .i64 t, .int .i64 a, .int .i64 n] w fun e w' => e = .returned (.int .i64 1) ∧ w = w' := by
  go_enter Tryz.func171, Tryz.ntmps171
  go_wp2
  go_ret
  exact ⟨rfl, rfl⟩

set_option maxHeartbeats 1000000 in
theorem lcheck_any {b : Nat} {F : Nat → Prop} {ws : List Int} {log : List Acc} (h : MemAt w b F ws log) (t a n : Int) :
    Calls Tryz.prog 171 #[.pointer (some ⟨b, 0, none⟩), .int .i64 t, .int .i64 a, .int .i64 n] w fun e w' => e = .returned (.int .i64 (lckErr t a n ws.length)) ∧ w = w' := by
  have H := hid h
  clear h
  by_cases h1 : t < 0
  · rw [show lckErr t a n ws.length = 2 from if_pos (by omega)]
    have d1 : decide (t < 0) = true := decide_eq_true h1
    clear h1
    go_enter Tryz.func171, Tryz.ntmps171
    go_wp2
    go_ret
    exact ⟨rfl, rfl⟩
  have d1 : decide (t < 0) = false := decide_eq_false h1
  by_cases h2 : 64 ≤ t
  · rw [show lckErr t a n ws.length = 2 from if_pos (by omega)]
    have d2 : decide (64 ≤ t) = true := decide_eq_true h2
    clear h1 h2
    go_enter Tryz.func171, Tryz.ntmps171
    go_wp2
    go_ret
    exact ⟨rfl, rfl⟩
  have d2 : decide (64 ≤ t) = false := decide_eq_false h2
  by_cases h3 : n < 0
  · rw [show lckErr t a n ws.length = 2 from if_pos (by omega)]
    have d3 : decide (n < 0) = true := decide_eq_true h3
    clear h1 h2 h3
    go_enter Tryz.func171, Tryz.ntmps171
    go_wp2
    go_ret
    exact ⟨rfl, rfl⟩
  have d3 : decide (n < 0) = false := decide_eq_false h3
  by_cases h4 : 255 < n
  · rw [show lckErr t a n ws.length = 2 from if_pos (by omega)]
    have d4 : decide (255 < n) = true := decide_eq_true h4
    clear h1 h2 h3 h4
    go_enter Tryz.func171, Tryz.ntmps171
    go_wp2
    go_ret
    exact ⟨rfl, rfl⟩
  have d4 : decide (255 < n) = false := decide_eq_false h4
  by_cases h5 : a < 0 ∨ (ws.length : Int) ≤ a
  · rw [show lckErr t a n ws.length = 3 from (if_neg (by omega)).trans (if_pos h5)]
    have HP := hid h5
    clear h1 h2 h3 h4 h5
    go_enter Tryz.func171, Tryz.ntmps171
    go_wp2_with fail
    refine (peek_no H.out a HP.out).mono ?_
    rintro e w' ⟨rfl, rfl⟩
    go_wp2
    go_ret
    exact ⟨rfl, rfl⟩
  · rw [show lckErr t a n ws.length = 0 from (if_neg (by omega)).trans (if_neg h5)]
    obtain ⟨x, hx⟩ : ∃ x, ws[a.toNat]? = some x := ⟨_, List.getElem?_eq_getElem (by omega)⟩
    have HX := hid hx
    have a0 : 0 ≤ a := by omega
    clear h1 h2 h3 h4 h5 hx
    go_enter Tryz.func171, Tryz.ntmps171
    go_wp2_with fail
    refine (peek_ok H.out a x a0 HX.out).mono ?_
    rintro e w' ⟨rfl, rfl⟩
    go_wp2
    go_ret
    exact ⟨rfl, rfl⟩

set_option maxHeartbeats 400000 in
theorem lnew_nil (t a n : Int) : Calls Tryz.prog 167 #[.pointer none, .int .i64 t, .int .i64 a, .int .i64 n] w fun e w' => e = .returned (.tuple #[.pointer none, .int .i64 1]) ∧ w = w' := by
  go_enter Tryz.func167, Tryz.ntmps167
  go_wp2_with fail
  refine (lcheck_nil t a n).mono ?_
  rintro e w' ⟨rfl, rfl⟩
  go_wp2
  go_ret2
  exact ⟨rfl, rfl⟩

set_option maxHeartbeats 400000 in
theorem lnew_err {b : Nat} {F : Nat → Prop} {ws : List Int} {log : List Acc} (h : MemAt w b F ws log) (t a n : Int) (he : lckErr t a n ws.length ≠ 0) :
    Calls Tryz.prog 167 #[.pointer (some ⟨b, 0, none⟩), .int .i64 t, .int .i64 a, .int .i64 n] w fun e w' => e = .returned (.tuple #[.pointer none, .int .i64 (lckErr t a n ws.length)]) ∧ w = w' := by
  have H := hid h
  obtain ⟨r, hr⟩ : ∃ r, r = lckErr t a n ws.length := ⟨_, rfl⟩
  have hne : (r != 0) = true := by rw [bne_iff_ne, hr]; exact he
  have hc := lcheck_any h t a n
  rw [← hr] at hc ⊢
  have HC := hid hc
  clear h he hr hc
  go_enter Tryz.func167, Tryz.ntmps167
  go_wp2_with fail
  refine HC.out.mono ?_
  rintro e w' ⟨rfl, rfl⟩
  go_wp2
  go_ret2
  exact ⟨rfl, rfl⟩

/-- A new lock. -/
def LNewTo (w : World) (mb : Nat) (t a n : Int) (e : Ending) (w' : World) : Prop :=
  e = .returned (.tuple #[.pointer (some ⟨w.heap.size, 0, none⟩), .int .i64 0]) ∧ LockAt w' w.heap.size mb ⟨0, n, t, a, true, 0⟩ ∧ Keep Nil w w' ∧ w'.heap.size = w.heap.size + 1

set_option maxHeartbeats 1000000 in
theorem lnew_ok {b : Nat} {F : Nat → Prop} {ws : List Int} {log : List Acc} (h : MemAt w b F ws log) (t a n : Int) (he : lckErr t a n ws.length = 0) :
    Calls Tryz.prog 167 #[.pointer (some ⟨b, 0, none⟩), .int .i64 t, .int .i64 a, .int .i64 n] w (LNewTo w b t a n) := by
  have hc := lcheck_any h t a n
  rw [he] at hc
  have HC := hid hc
  clear h he hc
  go_enter Tryz.func167, Tryz.ntmps167
  go_wp2_with fail
  refine HC.out.mono ?_
  rintro e w' ⟨rfl, rfl⟩
  go_wp2
  go_ret2
  exact ⟨rfl, heap_alloc_new w _, Keep.alloc (Keep.refl _ _) _, by simp⟩

/-- A failure is counted. -/
def FailTo (w : World) (b : Nat) (f tr : Int) (e : Ending) (w' : World) : Prop := ∃ n, e = .returned (.bool (f + 1 == tr)) ∧ w' = (w.setCell ⟨b, 0, none⟩ (.int .i64 (f + 1))).drewN n

set_option maxHeartbeats 1000000 in
theorem fail_any (b : Nat) (f tr : Int) (h0 : w.cell? ⟨b, 0, none⟩ = some (.int .i64 f)) (h1 : w.cell? ⟨b, 1, none⟩ = some (.int .i64 tr)) (hf : w.frozen? ⟨b, 0, none⟩ = false) (f0 : 0 ≤ f) (f1 : f < 1000000000000) :
    Calls Tryz.prog 176 #[.pointer (some ⟨b, 0, none⟩)] w (FailTo w b f tr) := by
  go_enter Tryz.func176, Tryz.ntmps176
  go_wp2
  go_quiet (fail)
  go_wp2
  go_ret
  exact ⟨_, rfl, rfl⟩

/-- A lock and its memory behind a step. -/
def TryTo (w : World) (lb mb : Nat) (F : Nat → Prop) (s : LS) (ws : List Int) (log : List Acc) (done : Bool) (e : Ending) (w' : World) : Prop :=
  e = .returned (.tuple #[.int .u8 2, .bool done]) ∧ ∃ F', MemAt w' mb F' ws log ∧ LockAt w' lb mb s ∧ ¬ F' lb ∧ Keep (fun k => F k ∨ k = lb) w w' ∧ Foot w F F'

section
variable {lb mb : Nat} {F : Nat → Prop} {ws : List Int} {log : List Acc}

theorem LockAt.cells {s : LS} (h : LockAt w lb mb s) : w.cell? ⟨lb, 0, none⟩ = some (.int .i64 s.f) ∧ w.cell? ⟨lb, 1, none⟩ = some (.int .i64 s.tries) ∧ w.cell? ⟨lb, 2, none⟩ = some (.pointer (some ⟨mb, 0, none⟩)) ∧ w.cell? ⟨lb, 3, none⟩ = some (.int .i64 s.t) ∧
    w.cell? ⟨lb, 4, none⟩ = some (.int .i64 s.a) ∧ w.cell? ⟨lb, 5, none⟩ = some (stepV lb s.live) ∧ w.cell? ⟨lb, 6, none⟩ = some (.int .i64 s.e) := by
  refine ⟨?_, ?_, ?_, ?_, ?_, ?_, ?_⟩ <;> (rw [cell_of h]; rfl)

theorem try_mk {w0 w1 W : World} {s0 s : LS} {F1 : Nat → Prop} {ws' : List Int} {log' : List Acc} {done : Bool} (hl : LockAt w lb mb s0) (hn : ¬ F lb) (k0 : Keep Nil w w0) (hz : w0.heap.size = w.heap.size) (m1 : MemAt w1 mb F1 ws' log') (k1 : Keep F w0 w1) (f1 : Foot w0 F F1)
    (k2 : Keep (fun k => k = lb) w1 W) (lW : LockAt W lb mb s) : TryTo w lb mb F s ws' log' done (.returned (.tuple #[.int .u8 2, .bool done])) W := by
  have hlt := lt_of_block hl
  have hn1 : ¬ F1 lb := fun h => (f1 lb h).elim hn (fun h' => by omega)
  refine ⟨rfl, F1, m1.keep k2 (fun k hk e => hn1 (by rw [← e]; exact hk)), lW, hn1, ?_, fun k hk => by rw [← hz]; exact f1 k hk⟩
  exact ((k0.mono (fun _ _ h => h.elim)).trans k1 (fun _ _ h => .inl h)).trans k2 (fun _ _ h => .inr h)

set_option maxRecDepth 100000 in
set_option maxHeartbeats 2000000 in
theorem try_yes (h : MemAt w mb F ws log) (s : LS) (hl : LockAt w lb mb s) (hn : ¬ F lb) (ht0 : 0 ≤ s.t) (ht1 : s.t < 64) (ha0 : 0 ≤ s.a) (hx : ws[s.a.toNat]? = some 0) (hlog : log.length < 1000000000000) :
    Calls Tryz.prog 172 #[.pointer (some ⟨lb, 0, none⟩)] w (TryTo w lb mb F { s with live := false } (ws.set s.a.toNat (s.t + 1)) (log ++ [⟨s.t, s.a, 4, 0, s.t + 1, true⟩]) true) := by
  obtain ⟨f, tries, t, a, live, e0⟩ := s
  simp only at ht0 ht1 ha0 hx ⊢
  obtain ⟨c0, c1, c2, c3, c4, c5, c6⟩ := hl.cells
  simp only at c0 c1 c2 c3 c4 c5 c6
  have HH := hid h
  have HL := hid hl
  have HN := hid hn
  have HX := hid hx
  have k0 := hid ((Keep.refl Nil w).drew)
  have hw0 : IntKind.u64.wrap t = t := by rw [IntKind.wrap_u64]; omega
  have hw : IntKind.u64.wrap (t + 1) = t + 1 := by rw [IntKind.wrap_u64]; omega
  clear h hl hn hx c0 c1 c5 c6
  go_enter Tryz.func172, Tryz.ntmps172
  go_wp2
  go_region_held3 (fun w' => w'.cell? ⟨lb, 2, none⟩ = some (.pointer (some ⟨mb, 0, none⟩)) ∧ w'.cell? ⟨lb, 3, none⟩ = some (.int .i64 t) ∧ w'.cell? ⟨lb, 4, none⟩ = some (.int .i64 a)) (go_keep)
    ((go_at_call 175; (with_reducible refine (cas_yes (HH.out.keep k0.out (fun _ _ h => h)) t a 0 (t + 1) ht0 ht1 ha0 HX.out hlog).mono ?_); rintro e w1 ⟨rfl, F1, hm1, hk1, hf1⟩; have hL1 := (HL.out.keep k0.out (fun h => h)).keep hk1 HN.out; have d2 := hL1.cells.2.2.1; have d3 := hL1.cells.2.2.2.1; have d4 := hL1.cells.2.2.2.2.1; have M1 := hid hm1; have K1 := hid hk1; have F1' := hid hf1; have L1 := hid hL1; clear hm1 hk1 hf1 hL1))
  have z5 : w1.frozen? ⟨lb, 5, none⟩ = false := free_of L1.out 5
  have g5 := L1.out.cells.2.2.2.2.2.1
  simp only at g5
  cases live
  all_goals
    simp only [stepV] at g5
    go_wp2
    go_quiet (fail)
    go_wp2
    go_ret2
    exact try_mk HL.out HN.out k0.out rfl M1.out K1.out F1'.out (Keep.drewN (Keep.setCell (Keep.refl (fun k => k = lb) w1) (.inl rfl) _) _) (show (w1.setCell ⟨lb, 5, none⟩ .nilFunc).heap[lb]? = _ from set_same L1.out _)

set_option maxRecDepth 100000 in
set_option maxHeartbeats 4000000 in
theorem try_no (h : MemAt w mb F ws log) (s : LS) (hl : LockAt w lb mb s) (hn : ¬ F lb) (ht0 : 0 ≤ s.t) (ht1 : s.t < 64) (ha0 : 0 ≤ s.a) (x : Int) (hx : ws[s.a.toNat]? = some x) (hx0 : x ≠ 0) (hlive : s.live = true) (f0 : 0 ≤ s.f) (f1 : s.f < 1000000000) (hlog : log.length < 1000000000000) :
    Calls Tryz.prog 172 #[.pointer (some ⟨lb, 0, none⟩)] w (TryTo w lb mb F (s.step x) ws (log ++ [⟨s.t, s.a, 4, x, x, false⟩]) (s.f + 1 == s.tries)) := by
  have hst : s.step x = if s.f + 1 = s.tries then { s with f := s.f + 1, live := false, e := 11 } else { s with f := s.f + 1 } := if_neg hx0
  obtain ⟨s', hs'⟩ : ∃ s', s' = s.step x := ⟨_, rfl⟩
  rw [← hs'] at hst ⊢
  obtain ⟨f, tries, t, a, live, e0⟩ := s
  simp only at ht0 ht1 ha0 hx hlive f0 f1 hst ⊢
  subst hlive
  obtain ⟨c0, c1, c2, c3, c4, c5, c6⟩ := hl.cells
  simp only at c0 c1 c2 c3 c4 c5 c6
  have HH := hid h
  have HL := hid hl
  have HN := hid hn
  have HX := hid hx
  have HX0 := hid hx0
  have HST := hid hst
  have k0 := hid ((Keep.refl Nil w).drew)
  have hw0 : IntKind.u64.wrap t = t := by rw [IntKind.wrap_u64]; omega
  have hw : IntKind.u64.wrap (t + 1) = t + 1 := by rw [IntKind.wrap_u64]; omega
  clear h hl hn hx hx0 c0 c1 c5 c6 hst hs'
  go_enter Tryz.func172, Tryz.ntmps172
  go_wp2
  go_region_held3 (fun w' => w'.cell? ⟨lb, 2, none⟩ = some (.pointer (some ⟨mb, 0, none⟩)) ∧ w'.cell? ⟨lb, 3, none⟩ = some (.int .i64 t) ∧ w'.cell? ⟨lb, 4, none⟩ = some (.int .i64 a)) (go_keep)
    ((go_at_call 175; (with_reducible refine (cas_no (HH.out.keep k0.out (fun _ _ h => h)) t a x 0 (t + 1) ht0 ht1 ha0 HX.out HX0.out hlog).mono ?_); rintro e w1 ⟨rfl, F1, hm1, hk1, hf1⟩; have hL1 := (HL.out.keep k0.out (fun h => h)).keep hk1 HN.out; have d2 := hL1.cells.2.2.1; have d3 := hL1.cells.2.2.2.1; have d4 := hL1.cells.2.2.2.2.1; have M1 := hid hm1; have K1 := hid hk1; have F1' := hid hf1; have L1 := hid hL1; clear hm1 hk1 hf1 hL1))
  have z0 : w1.frozen? ⟨lb, 0, none⟩ = false := free_of L1.out 0
  obtain ⟨g0, g1, g2, g3, g4, g5, g6⟩ := L1.out.cells
  simp only at g0 g1 g5 g6
  go_wp2_with fail
  refine (fail_any lb f tries g0 g1 z0 f0 (by omega)).mono ?_
  rintro e w2 ⟨n2, rfl, rfl⟩
  have L2 := hid (show LockAt ((w1.setCell ⟨lb, 0, none⟩ (.int .i64 (f + 1))).drewN n2) lb mb ⟨f + 1, tries, t, a, true, e0⟩ from (show (w1.setCell ⟨lb, 0, none⟩ (.int .i64 (f + 1))).heap[lb]? = _ from set_same L1.out _))
  have K2 := hid (show Keep (fun k => k = lb) w1 ((w1.setCell ⟨lb, 0, none⟩ (.int .i64 (f + 1))).drewN n2) from Keep.drewN (Keep.setCell (Keep.refl (fun k => k = lb) w1) (.inl rfl) _) _)
  generalize (w1.setCell ⟨lb, 0, none⟩ (.int .i64 (f + 1))).drewN n2 = w2 at *
  clear c2 c3 c4 d2 d3 d4 g0 g1 g2 g3 g4 g5 g6 z0
  have z5 : w2.frozen? ⟨lb, 5, none⟩ = false := free_of L2.out 5
  have z6 : w2.frozen? ⟨lb, 6, none⟩ = false := free_of L2.out 6
  obtain ⟨g0, g1, g2, g3, g4, g5, g6⟩ := L2.out.cells
  simp only [stepV] at g5 g6
  by_cases hft : f + 1 = tries
  · have d1 : (f + 1 == tries) = true := beq_iff_eq.2 hft
    have hsv := hid (HST.out.trans (if_pos hft))
    clear hft g0 g1 g2 g3 g4
    go_wp2
    go_quiet (fail)
    go_wp2
    go_ret2
    rw [hsv.out]
    have lW : LockAt (((w2.setCell ⟨lb, 5, none⟩ .nilFunc).setCell ⟨lb, 6, none⟩ (.int .i64 11)).drewN nq) lb mb ⟨f + 1, tries, t, a, false, 11⟩ := (show ((w2.setCell ⟨lb, 5, none⟩ .nilFunc).setCell ⟨lb, 6, none⟩ (.int .i64 11)).heap[lb]? = _ from set_same (set_same L2.out _) _)
    have kW := Keep.trans K2.out (Keep.drewN (Keep.setCell (Keep.setCell (Keep.refl (fun k => k = lb) w2) (.inl (rfl : (⟨lb, 5, none⟩ : Addr).block = lb)) .nilFunc) (.inl (rfl : (⟨lb, 6, none⟩ : Addr).block = lb)) (.int .i64 11)) nq) (fun _ _ h => h)
    first
      | exact try_mk HL.out HN.out k0.out rfl M1.out K1.out F1'.out kW lW
      | (rw [d1]; exact try_mk HL.out HN.out k0.out rfl M1.out K1.out F1'.out kW lW)
  · have d1 : (f + 1 == tries) = false := beq_eq_false_iff_ne.2 hft
    have hsv := hid (HST.out.trans (if_neg hft))
    clear hft g0 g1 g2 g3 g4
    go_wp2
    go_quiet (fail)
    go_wp2
    go_ret2
    rw [hsv.out]
    have kW := Keep.trans K2.out ((Keep.refl (fun k => k = lb) w2).drewN nq) (fun _ _ h => h)
    first
      | exact try_mk HL.out HN.out k0.out rfl M1.out K1.out F1'.out kW L2.out
      | (rw [d1]; exact try_mk HL.out HN.out k0.out rfl M1.out K1.out F1'.out kW L2.out)

/-! Step, Next, Result. -/
set_option maxHeartbeats 1000000 in
theorem lstep_idle (s : LS) (hl : LockAt w lb mb s) (hlive : s.live = false) : Calls Tryz.prog 173 #[.pointer (some ⟨lb, 0, none⟩)] w fun e w' => e = .returned (.tuple #[.int .u8 0, .bool false]) ∧ w = w' := by
  have g5 := hl.cells.2.2.2.2.2.1
  rw [hlive] at g5
  simp only [stepV] at g5
  clear hl hlive
  go_enter Tryz.func173, Tryz.ntmps173
  go_wp2
  go_ret2
  exact ⟨rfl, rfl⟩
set_option maxHeartbeats 1000000 in
theorem lstep_nil : Calls Tryz.prog 173 #[.pointer none] w fun e w' => e = .returned (.tuple #[.int .u8 0, .bool false]) ∧ w = w' := by
  go_enter Tryz.func173, Tryz.ntmps173
  go_wp2
  go_ret2
  exact ⟨rfl, rfl⟩
set_option maxHeartbeats 1000000 in
theorem lstep_try (s : LS) (hl : LockAt w lb mb s) (hlive : s.live = true) {s' : LS} {ws' : List Int} {log' : List Acc} {done : Bool}
    (ht : Calls Tryz.prog 172 #[.pointer (some ⟨lb, 0, none⟩)] w (TryTo w lb mb F s' ws' log' done)) :
    Calls Tryz.prog 173 #[.pointer (some ⟨lb, 0, none⟩)] w (TryTo w lb mb F s' ws' log' done) := by
  have g5 := hl.cells.2.2.2.2.2.1
  rw [hlive] at g5
  simp only [stepV] at g5
  have HT := hid ht
  clear hl hlive ht
  go_enter Tryz.func173, Tryz.ntmps173
  go_wp2_with fail
  refine HT.out.mono ?_
  rintro e w1 ⟨rfl, hrest⟩
  have HR := hid hrest
  clear hrest
  go_wp2
  go_ret2
  exact ⟨rfl, HR.out⟩
theorem lstep_yes (h : MemAt w mb F ws log) (s : LS) (hl : LockAt w lb mb s) (hlive : s.live = true) (hn : ¬ F lb) (ht0 : 0 ≤ s.t) (ht1 : s.t < 64) (ha0 : 0 ≤ s.a) (hx : ws[s.a.toNat]? = some 0) (hlog : log.length < 1000000000000) :
    Calls Tryz.prog 173 #[.pointer (some ⟨lb, 0, none⟩)] w (TryTo w lb mb F { s with live := false } (ws.set s.a.toNat (s.t + 1)) (log ++ [⟨s.t, s.a, 4, 0, s.t + 1, true⟩]) true) :=
  lstep_try s hl hlive (try_yes h s hl hn ht0 ht1 ha0 hx hlog)
theorem lstep_no (h : MemAt w mb F ws log) (s : LS) (hl : LockAt w lb mb s) (hlive : s.live = true) (hn : ¬ F lb) (ht0 : 0 ≤ s.t) (ht1 : s.t < 64) (ha0 : 0 ≤ s.a) (x : Int) (hx : ws[s.a.toNat]? = some x) (hx0 : x ≠ 0) (f0 : 0 ≤ s.f) (f1 : s.f < 1000000000) (hlog : log.length < 1000000000000) :
    Calls Tryz.prog 173 #[.pointer (some ⟨lb, 0, none⟩)] w (TryTo w lb mb F (s.step x) ws (log ++ [⟨s.t, s.a, 4, x, x, false⟩]) (s.f + 1 == s.tries)) :=
  lstep_try s hl hlive (try_no h s hl hn ht0 ht1 ha0 x hx hx0 hlive f0 f1 hlog)

set_option maxHeartbeats 1000000 in
theorem lnext_any (s : LS) (hl : LockAt w lb mb s) : Calls Tryz.prog 211 #[.pointer (some ⟨lb, 0, none⟩)] w fun e w' => e = .returned (.int .u8 (if s.live then 2 else 0)) ∧ w = w' := by
  have g5 := hl.cells.2.2.2.2.2.1
  obtain ⟨f, tries, t, a, live, e0⟩ := s
  clear hl
  cases live
  all_goals
    simp only [stepV] at g5
    go_enter Tryz.func211, Tryz.ntmps211
    go_wp2
    go_ret
    exact ⟨rfl, rfl⟩
set_option maxHeartbeats 1000000 in
theorem lnext_nil : Calls Tryz.prog 211 #[.pointer none] w fun e w' => e = .returned (.int .u8 0) ∧ w = w' := by
  go_enter Tryz.func211, Tryz.ntmps211
  go_wp2
  go_ret
  exact ⟨rfl, rfl⟩

/-- What Result returns. -/
def LResTo (w : World) (s : LS) (e : Ending) (w' : World) : Prop := ∃ n, e = .returned (.tuple #[.int .i64 s.f, .int .i64 (if s.live then 8 else s.e)]) ∧ w' = w.drewN n
/-! Unlock. -/
set_option maxHeartbeats 1000000 in
theorem unlock_nil (t a : Int) : Calls Tryz.prog 185 #[.pointer none, .int .i64 t, .int .i64 a] w fun e w' => e = .returned (.int .i64 1) ∧ w = w' := by
  go_enter Tryz.func185, Tryz.ntmps185
  go_wp2_with fail
  refine (lcheck_nil t a 0).mono ?_
  rintro e w' ⟨rfl, rfl⟩
  go_wp2
  go_ret
  exact ⟨rfl, rfl⟩
set_option maxHeartbeats 1000000 in
theorem unlock_err (h : MemAt w mb F ws log) (t a : Int) (he : lckErr t a 0 ws.length ≠ 0) :
    Calls Tryz.prog 185 #[.pointer (some ⟨mb, 0, none⟩), .int .i64 t, .int .i64 a] w fun e w' => e = .returned (.int .i64 (lckErr t a 0 ws.length)) ∧ w = w' := by
  obtain ⟨r, hr⟩ : ∃ r, r = lckErr t a 0 ws.length := ⟨_, rfl⟩
  have hne : (r != 0) = true := by rw [bne_iff_ne, hr]; exact he
  have hc := lcheck_any h t a 0
  rw [← hr] at hc ⊢
  have HC := hid hc
  clear h he hr hc
  go_enter Tryz.func185, Tryz.ntmps185
  go_wp2_with fail
  refine HC.out.mono ?_
  rintro e w' ⟨rfl, rfl⟩
  go_wp2
  go_ret
  exact ⟨rfl, rfl⟩
set_option maxHeartbeats 1000000 in
theorem unlock_state (h : MemAt w mb F ws log) (t a : Int) (he : lckErr t a 0 ws.length = 0) (x : Int) (hx : ws[a.toNat]? = some x) (hne : x ≠ t + 1) :
    Calls Tryz.prog 185 #[.pointer (some ⟨mb, 0, none⟩), .int .i64 t, .int .i64 a] w fun e w' => e = .returned (.int .i64 8) ∧ w = w' := by
  have hc := lcheck_any h t a 0
  rw [he] at hc
  obtain ⟨⟨t0, t1, -, -⟩, a0, a1⟩ := lckErr_zero he
  have hp := peek_ok h a x a0 hx
  have d1 : (x != t + 1) = true := bne_iff_ne.2 hne
  have HC := hid hc
  have HP := hid hp
  clear h he hc hp hx hne
  go_enter Tryz.func185, Tryz.ntmps185
  go_wp2_with fail
  refine HC.out.mono ?_
  rintro e w' ⟨rfl, rfl⟩
  go_wp2_with fail
  refine HP.out.mono ?_
  rintro e w' ⟨rfl, rfl⟩
  go_wp2
  go_ret
  exact ⟨rfl, rfl⟩
set_option maxHeartbeats 1000000 in
theorem unlock_ok (h : MemAt w mb F ws log) (t a : Int) (he : lckErr t a 0 ws.length = 0) (hx : ws[a.toNat]? = some (t + 1)) (hlog : log.length < 1000000000000) :
    Calls Tryz.prog 185 #[.pointer (some ⟨mb, 0, none⟩), .int .i64 t, .int .i64 a] w fun e w' => e = .returned (.int .i64 0) ∧ MemTo w mb F (ws.set a.toNat 0) (log ++ [⟨t, a, 2, t + 1, 0, false⟩]) w' := by
  have hc := lcheck_any h t a 0
  rw [he] at hc
  obtain ⟨⟨t0, t1, -, -⟩, a0, a1⟩ := lckErr_zero he
  have hp := peek_ok h a (t + 1) a0 hx
  have hs := store_ok h t a (t + 1) 0 t0 t1 a0 hx hlog
  have HC := hid hc
  have HP := hid hp
  have HS := hid hs
  clear h he hc hp hx hs
  go_enter Tryz.func185, Tryz.ntmps185
  go_wp2_with fail
  refine HC.out.mono ?_
  rintro e w' ⟨rfl, rfl⟩
  go_wp2_with fail
  refine HP.out.mono ?_
  rintro e w' ⟨rfl, rfl⟩
  go_wp2_with fail
  refine HS.out.mono ?_
  rintro e w1 ⟨rfl, hto⟩
  have HT := hid hto
  clear hto
  go_wp2
  go_ret
  exact ⟨rfl, HT.out⟩
end
end
end Go.Proofs.YtldjlcdccnnogaaGreat
