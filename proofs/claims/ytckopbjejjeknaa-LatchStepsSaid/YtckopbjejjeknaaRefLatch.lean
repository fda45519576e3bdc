/- leapfrogref13: contracts. -/
import Derived.Test.YtckopbjejjeknaaLatch
import Derived.Test.YtckopbjejjeknaaRefOps
set_option linter.unusedVariables false
set_option linter.unusedSimpArgs false
namespace Go.Proofs.Ytckopbjejjeknaa
open Go.RowKit Go.Lf

def RLockAt (w : World) (lb rb : Nat) (s : LS) : Prop :=
  w.heap[lb]? = some (.cells #[.pointer (some ⟨rb, 0, none⟩), .int .i64 s.t, .int .i64 s.a, .int .i64 s.tries, .int .i64 s.f, .bool (!s.live), .int .i64 s.e] 138 (0, 0))
section
variable {w : World} {lb rb : Nat} {G : Nat → Prop} {ws : List Int} {log : List Acc} {s : LS}
theorem RLockAt.keep {w' : World} {S : Nat → Prop} (h : RLockAt w lb rb s) (hk : Keep S w w') (hn : ¬ S lb) : RLockAt w' lb rb s := hk.at h hn
theorem RLockAt.cells (h : RLockAt w lb rb s) : w.cell? ⟨lb, 0, none⟩ = some (.pointer (some ⟨rb, 0, none⟩)) ∧ w.cell? ⟨lb, 1, none⟩ = some (.int .i64 s.t) ∧ w.cell? ⟨lb, 2, none⟩ = some (.int .i64 s.a) ∧ w.cell? ⟨lb, 3, none⟩ = some (.int .i64 s.tries) ∧ w.cell? ⟨lb, 4, none⟩ = some (.int .i64 s.f) ∧ w.cell? ⟨lb, 5, none⟩ = some (.bool (!s.live)) ∧ w.cell? ⟨lb, 6, none⟩ = some (.int .i64 s.e) := by
  refine ⟨?_, ?_, ?_, ?_, ?_, ?_, ?_⟩ <;> (rw [cell_of h]; rfl)
theorem rl_len (h : RefAt w rb G ws log) : ∃ gw wc, w.cell? ⟨rb, 0, none⟩ = some (.slice (some ⟨gw, 0, none⟩) ws.length wc) ∧ ∀ (i : Nat) (x : Int), ws[i]? = some x → w.cell? ⟨gw, i, none⟩ = some (.int .u64 x) := by
  obtain ⟨gw, wc, la, lc, hr, -⟩ := h.rep
  exact ⟨gw, wc, hr.cell0, fun i x hx => hr.word hx⟩
set_option maxHeartbeats 1000000 in
theorem rlcheck_any (h : RefAt w rb G ws log) (t a n : Int) :
    Calls Try.prog 62 #[.pointer (some ⟨rb, 0, none⟩), .int .i64 t, .int .i64 a, .int .i64 n] w fun e w' => e = .returned (.int .i64 (lckErr t a n ws.length)) ∧ w = w' := by
  obtain ⟨gw, wc, c0, -⟩ := rl_len h
  clear h
  by_cases h1 : t < 0 ∨ 64 ≤ t
  · rw [show lckErr t a n ws.length = 2 from if_pos (by omega)]
    have HT := hid (thread_no t h1 w)
    clear h1
    go_enter Try.func62, Try.ntmps62
    go_wp2_with fail
    refine HT.out.mono ?_
    rintro e w' ⟨rfl, rfl⟩
    go_wp2
    go_ret
    exact ⟨rfl, rfl⟩
  have HT := hid (thread_yes t (by omega) (by omega) w)
  by_cases h3 : n < 0
  · rw [show lckErr t a n ws.length = 2 from if_pos (by omega)]
    have d3 : decide (n < 0) = true := decide_eq_true h3
    clear h1 h3
    go_enter Try.func62, Try.ntmps62
    go_wp2_with fail
    refine HT.out.mono ?_
    rintro e w' ⟨rfl, rfl⟩
    go_wp2
    go_ret
    exact ⟨rfl, rfl⟩
  have d3 : decide (n < 0) = false := decide_eq_false h3
  by_cases h4 : 255 < n
  · rw [show lckErr t a n ws.length = 2 from if_pos (by omega)]
    have d4 : decide (255 < n) = true := decide_eq_true h4
    clear h1 h3 h4
    go_enter Try.func62, Try.ntmps62
    go_wp2_with fail
    refine HT.out.mono ?_
    rintro e w' ⟨rfl, rfl⟩
    go_wp2
    go_ret
    exact ⟨rfl, rfl⟩
  have d4 : decide (255 < n) = false := decide_eq_false h4
  by_cases h5 : a < 0
  · rw [show lckErr t a n ws.length = 3 from (if_neg (by omega)).trans (if_pos (.inl h5))]
    have d5 : decide (a < 0) = true := decide_eq_true h5
    clear h1 h3 h4 h5
    go_enter Try.func62, Try.ntmps62
    go_wp2_with fail
    refine HT.out.mono ?_
    rintro e w' ⟨rfl, rfl⟩
    go_wp2
    go_ret
    exact ⟨rfl, rfl⟩
  have d5 : decide (a < 0) = false := decide_eq_false h5
  by_cases h6 : (ws.length : Int) ≤ a
  · rw [show lckErr t a n ws.length = 3 from (if_neg (by omega)).trans (if_pos (.inr h6))]
    have d6 : decide ((ws.length : Int) ≤ a) = true := decide_eq_true h6
    clear h1 h3 h4 h5 h6
    go_enter Try.func62, Try.ntmps62
    go_wp2_with fail
    refine HT.out.mono ?_
    rintro e w' ⟨rfl, rfl⟩
    go_wp2
    go_ret
    exact ⟨rfl, rfl⟩
  · rw [show lckErr t a n ws.length = 0 from (if_neg (by omega)).trans (if_neg (by omega))]
    have d6 : decide ((ws.length : Int) ≤ a) = false := decide_eq_false h6
    clear h1 h3 h4 h5 h6
    go_enter Try.func62, Try.ntmps62
    go_wp2_with fail
    refine HT.out.mono ?_
    rintro e w' ⟨rfl, rfl⟩
    go_wp2
    go_ret
    exact ⟨rfl, rfl⟩
set_option maxHeartbeats 400000 in
theorem rlnew_err (h : RefAt w rb G ws log) (t a n : Int) (he : lckErr t a n ws.length ≠ 0) :
    Calls Try.prog 28 #[.pointer (some ⟨rb, 0, none⟩), .int .i64 t, .int .i64 a, .int .i64 n] w fun e w' => e = .returned (.tuple #[.pointer none, .int .i64 (lckErr t a n ws.length)]) ∧ w = w' := by
  obtain ⟨r, hr⟩ : ∃ r, r = lckErr t a n ws.length := ⟨_, rfl⟩
  have hne : (r != 0) = true := by rw [bne_iff_ne, hr]; exact he
  have hc := rlcheck_any h t a n
  rw [← hr] at hc ⊢
  have HC := hid hc
  clear h he hr hc
  go_enter Try.func28, Try.ntmps28
  go_wp2_with fail
  refine HC.out.mono ?_
  rintro e w' ⟨rfl, rfl⟩
  go_wp2
  go_ret2
  exact ⟨rfl, rfl⟩
def RLNewTo (w : World) (rb : Nat) (t a n : Int) (e : Ending) (w' : World) : Prop :=
  e = .returned (.tuple #[.pointer (some ⟨w.heap.size, 0, none⟩), .int .i64 0]) ∧ RLockAt w' w.heap.size rb ⟨0, n, t, a, true, 0⟩ ∧ Keep Nil w w' ∧ w'.heap.size = w.heap.size + 1
set_option maxHeartbeats 1000000 in
theorem rlnew_ok (h : RefAt w rb G ws log) (t a n : Int) (he : lckErr t a n ws.length = 0) :
    Calls Try.prog 28 #[.pointer (some ⟨rb, 0, none⟩), .int .i64 t, .int .i64 a, .int .i64 n] w (RLNewTo w rb t a n) := by
  have hc := rlcheck_any h t a n
  rw [he] at hc
  have HC := hid hc
  clear h he hc
  go_enter Try.func28, Try.ntmps28
  go_wp2_with fail
  refine HC.out.mono ?_
  rintro e w' ⟨rfl, rfl⟩
  go_wp2
  go_ret2
  exact ⟨rfl, heap_alloc_new w _, Keep.alloc (Keep.refl _ _) _, by simp⟩
set_option maxHeartbeats 1000000 in
theorem rlnext_any (hl : RLockAt w lb rb s) : Calls Try.prog 30 #[.pointer (some ⟨lb, 0, none⟩)] w fun e w' => e = .returned (.int .u8 (if s.live then 2 else 0)) ∧ w = w' := by
  have g5 := hl.cells.2.2.2.2.2.1
  obtain ⟨f, tries, t, a, live, e0⟩ := s
  clear hl
  cases live
  all_goals
    simp only [Bool.not_false, Bool.not_true] at g5
    go_enter Try.func30, Try.ntmps30
    go_wp2
    go_ret
    exact ⟨rfl, rfl⟩
def RLResTo (w : World) (s : LS) (e : Ending) (w' : World) : Prop := ∃ n, e = .returned (.tuple #[.int .i64 s.f, .int .i64 (if s.live then 8 else s.e)]) ∧ w' = w.drewN n
set_option maxHeartbeats 1000000 in
theorem rlres_any (hl : RLockAt w lb rb s) : Calls Try.prog 32 #[.pointer (some ⟨lb, 0, none⟩)] w (RLResTo w s) := by
  obtain ⟨g0, g1, g2, g3, g4, g5, g6⟩ := hl.cells
  obtain ⟨f, tries, t, a, live, e0⟩ := s
  clear hl g0 g1 g2 g3
  cases live
  · simp only [Bool.not_false, Bool.not_true] at g4 g5 g6
    go_enter Try.func32, Try.ntmps32
    go_wp2
    go_quiet (fail)
    go_wp2
    go_ret2
    exact ⟨_, rfl, rfl⟩
  · simp only [Bool.not_false, Bool.not_true] at g4 g5 g6
    go_enter Try.func32, Try.ntmps32
    go_wp2
    go_ret2
    exact ⟨0, rfl, rfl⟩

/-! Step. -/
def RTryTo (w : World) (lb rb : Nat) (G : Nat → Prop) (s : LS) (ws : List Int) (log : List Acc) (done : Bool) (e : Ending) (w' : World) : Prop :=
  e = .returned (.tuple #[.int .u8 2, .bool done]) ∧ ∃ G', RefAt w' rb G' ws log ∧ RLockAt w' lb rb s ∧ ¬ G' lb ∧ Keep (fun k => G k ∨ k = lb) w w' ∧ Foot w G G'
theorem rtry_mk {w1 W : World} {s0 s : LS} {G1 : Nat → Prop} {ws' : List Int} {log' : List Acc} {done : Bool} (hl : RLockAt w lb rb s0) (hn : ¬ G lb) (m1 : RefAt w1 rb G1 ws' log') (k1 : Keep G w.drew w1) (f1 : Foot w.drew G G1)
    (k2 : Keep (fun k => k = lb) w1 W) (lW : RLockAt W lb rb s) : RTryTo w lb rb G s ws' log' done (.returned (.tuple #[.int .u8 2, .bool done])) W := by
  have hlt := lt_of_block hl
  have hn1 : ¬ G1 lb := fun h => (f1 lb h).elim hn (fun h' => by simp at h'; omega)
  refine ⟨rfl, G1, m1.keep k2 (fun k hk e => hn1 (by rw [← e]; exact hk)), lW, hn1, ?_, fun k hk => by simpa using f1 k hk⟩
  exact (((Keep.refl _ w).drew).trans k1 (fun _ _ h => .inl h)).trans k2 (fun _ _ h => .inr h)
set_option maxHeartbeats 1000000 in
theorem rlstep_idle (hl : RLockAt w lb rb s) (hlive : s.live = false) : Calls Try.prog 31 #[.pointer (some ⟨lb, 0, none⟩)] w fun e w' => e = .returned (.tuple #[.int .u8 0, .bool false]) ∧ w = w' := by
  have NX := rlnext_any hl
  rw [hlive] at NX
  have HX := hid NX
  clear hl hlive NX
  go_enter Try.func31, Try.ntmps31
  go_wp2_with fail
  refine HX.out.mono ?_
  rintro e w' ⟨rfl, rfl⟩
  go_wp2
  go_ret2
  exact ⟨rfl, rfl⟩
set_option maxRecDepth 100000 in
set_option maxHeartbeats 4000000 in
theorem rlstep_yes (h : RefAt w rb G ws log) (hl : RLockAt w lb rb s) (hlive : s.live = true) (hn : ¬ G lb) (ht0 : 0 ≤ s.t) (ht1 : s.t < 64) (ha0 : 0 ≤ s.a) (hx : ws[s.a.toNat]? = some 0) (hlog : log.length < 1000000000000) :
    Calls Try.prog 31 #[.pointer (some ⟨lb, 0, none⟩)] w (RTryTo w lb rb G { s with live := false } (ws.set s.a.toNat (s.t + 1)) (log ++ [⟨s.t, s.a, 4, 0, s.t + 1, true⟩]) true) := by
  have NX := rlnext_any hl
  rw [hlive] at NX
  obtain ⟨f, tries, t, a, live, e0⟩ := s
  simp only at ht0 ht1 ha0 hx hlive ⊢
  subst hlive
  obtain ⟨c0, c1, c2, c3, c4, c5, c6⟩ := hl.cells
  simp only at c0 c1 c2 c3 c4 c5 c6
  have HNX := hid NX
  have HH := hid h
  have HL := hid hl
  have HN := hid hn
  have HX := hid hx
  have k0 := hid ((Keep.refl Nil w).drew)
  have hw0 : IntKind.u64.wrap t = t := by rw [IntKind.wrap_u64]; omega
  have hw : IntKind.u64.wrap (t + 1) = t + 1 := by rw [IntKind.wrap_u64]; omega
  clear h hl hn hx c3 c4 c5 c6 NX
  go_enter Try.func31, Try.ntmps31
  go_wp2_with fail
  refine HNX.out.mono ?_
  rintro e w' ⟨rfl, rfl⟩
  go_wp2
  go_region_held3 (fun w' => w'.cell? ⟨lb, 0, none⟩ = some (.pointer (some ⟨rb, 0, none⟩)) ∧ w'.cell? ⟨lb, 1, none⟩ = some (.int .i64 t) ∧ w'.cell? ⟨lb, 2, none⟩ = some (.int .i64 a)) (go_keep)
    ((go_at_call 64; (with_reducible refine (rcas_yes (HH.out.keep k0.out (fun _ _ h => h)) t a 0 (t + 1) ht0 ht1 ha0 HX.out hlog).mono ?_); rintro e w1 ⟨rfl, F1, hm1, hk1, hf1⟩; have hL1 := (HL.out.keep k0.out (fun h => h)).keep hk1 HN.out; have d2 := hL1.cells.1; have d3 := hL1.cells.2.1; have d4 := hL1.cells.2.2.1; have M1 := hid hm1; have K1 := hid hk1; have F1' := hid hf1; have L1 := hid hL1; clear hm1 hk1 hf1 hL1))
  have z5 : w1.frozen? ⟨lb, 5, none⟩ = false := free_of L1.out 5
  have g5 := L1.out.cells.2.2.2.2.2.1
  simp only at g5
  go_wp2
  go_quiet (fail)
  go_wp2
  go_ret2
  exact rtry_mk HL.out HN.out M1.out K1.out F1'.out (Keep.drewN (Keep.setCell (Keep.refl (fun k => k = lb) w1) (.inl rfl) _) _) (show (w1.setCell ⟨lb, 5, none⟩ (.bool true)).heap[lb]? = _ from set_same L1.out _)
set_option maxRecDepth 100000 in
set_option maxHeartbeats 4000000 in
theorem rlstep_no (h : RefAt w rb G ws log) (hl : RLockAt w lb rb s) (hlive : s.live = true) (he0 : s.e = 0) (hn : ¬ G lb) (ht0 : 0 ≤ s.t) (ht1 : s.t < 64) (ha0 : 0 ≤ s.a) (x : Int) (hx : ws[s.a.toNat]? = some x) (hx0 : x ≠ 0) (f0 : 0 ≤ s.f) (f1 : s.f < 1000000000) (hlog : log.length < 1000000000000) :
    Calls Try.prog 31 #[.pointer (some ⟨lb, 0, none⟩)] w (RTryTo w lb rb G (s.step x) ws (log ++ [⟨s.t, s.a, 4, x, x, false⟩]) (s.f + 1 == s.tries)) := by
  have NX := rlnext_any hl
  rw [hlive] at NX
  have hst : s.step x = if s.f + 1 = s.tries then { s with f := s.f + 1, live := false, e := 11 } else { s with f := s.f + 1 } := if_neg hx0
  obtain ⟨s', hs'⟩ : ∃ s', s' = s.step x := ⟨_, rfl⟩
  rw [← hs'] at hst ⊢
  obtain ⟨f, tries, t, a, live, e0⟩ := s
  simp only at ht0 ht1 ha0 hx hlive he0 f0 f1 hst ⊢
  subst hlive
  subst he0
  obtain ⟨c0, c1, c2, c3, c4, c5, c6⟩ := hl.cells
  simp only at c0 c1 c2 c3 c4 c5 c6
  have HNX := hid NX
  have HH := hid h
  have HL := hid hl
  have HN := hid hn
  have HX := hid hx
  have HX0 := hid hx0
  have HST := hid hst
  have k0 := hid ((Keep.refl Nil w).drew)
  have hw0 : IntKind.u64.wrap t = t := by rw [IntKind.wrap_u64]; omega
  have hw : IntKind.u64.wrap (t + 1) = t + 1 := by rw [IntKind.wrap_u64]; omega
  clear h hl hn hx hx0 c3 c4 c5 c6 NX hst hs'
  go_enter Try.func31, Try.ntmps31
  go_wp2_with fail
  refine HNX.out.mono ?_
  rintro e w' ⟨rfl, rfl⟩
  go_wp2
  go_region_held3 (fun w' => w'.cell? ⟨lb, 0, none⟩ = some (.pointer (some ⟨rb, 0, none⟩)) ∧ w'.cell? ⟨lb, 1, none⟩ = some (.int .i64 t) ∧ w'.cell? ⟨lb, 2, none⟩ = some (.int .i64 a)) (go_keep)
    ((go_at_call 64; (with_reducible refine (rcas_no (HH.out.keep k0.out (fun _ _ h => h)) t a x 0 (t + 1) ht0 ht1 ha0 HX.out HX0.out hlog).mono ?_); rintro e w1 ⟨rfl, F1, hm1, hk1, hf1⟩; have hL1 := (HL.out.keep k0.out (fun h => h)).keep hk1 HN.out; have d2 := hL1.cells.1; have d3 := hL1.cells.2.1; have d4 := hL1.cells.2.2.1; have M1 := hid hm1; have K1 := hid hk1; have F1' := hid hf1; have L1 := hid hL1; clear hm1 hk1 hf1 hL1))
  have z4 : w1.frozen? ⟨lb, 4, none⟩ = false := free_of L1.out 4
  have g4 := L1.out.cells.2.2.2.2.1
  simp only at g4
  have lb1 := lt_of_block L1.out
  clear c0 c1 c2 d2 d3 d4
  go_wp2
  have L2 := hid (show RLockAt (w1.setCell ⟨lb, 4, none⟩ (.int .i64 (f + 1))) lb rb ⟨f + 1, tries, t, a, true, 0⟩ from set_same L1.out _)
  have K2 := hid (show Keep (fun k => k = lb) w1 (w1.setCell ⟨lb, 4, none⟩ (.int .i64 (f + 1))) from Keep.setCell (Keep.refl (fun k => k = lb) w1) (.inl rfl) _)
  generalize w1.setCell ⟨lb, 4, none⟩ (.int .i64 (f + 1)) = w2 at *
  clear g4 z4 lb1
  have z5 : w2.frozen? ⟨lb, 5, none⟩ = false := free_of L2.out 5
  have z6 : w2.frozen? ⟨lb, 6, none⟩ = false := free_of L2.out 6
  obtain ⟨g0, g1, g2, g3, g4, g5, g6⟩ := L2.out.cells
  simp only at g3 g4 g5 g6
  have lb2 := lt_of_block L2.out
  clear g0 g1 g2
  by_cases hft : f + 1 = tries
  · have d1 : (f + 1 == tries) = true := beq_iff_eq.2 hft
    have hsv := hid (HST.out.trans (if_pos hft))
    clear hft
    go_quiet (fail)
    go_wp2
    go_quiet (fail)
    go_wp2
    go_ret2
    rw [hsv.out]
    have lW : RLockAt ((((w2.drewN 0).setCell ⟨lb, 6, none⟩ (.int .i64 11)).setCell ⟨lb, 5, none⟩ (.bool true)).drewN 0) lb rb ⟨f + 1, tries, t, a, false, 11⟩ := (show (((w2.drewN 0).setCell ⟨lb, 6, none⟩ (.int .i64 11)).setCell ⟨lb, 5, none⟩ (.bool true)).heap[lb]? = _ from set_same (set_same (show (w2.drewN 0).heap[lb]? = _ from L2.out) _) _)
    have kW := fun m0 m => Keep.trans K2.out (Keep.drewN (Keep.setCell (Keep.setCell ((Keep.refl (fun k => k = lb) w2).drewN m0) (.inl (rfl : (⟨lb, 6, none⟩ : Addr).block = lb)) (.int .i64 11)) (.inl (rfl : (⟨lb, 5, none⟩ : Addr).block = lb)) (.bool true)) m) (fun _ _ h => h)
    first
      | exact rtry_mk HL.out HN.out M1.out K1.out F1'.out (kW _ _) lW
      | (rw [d1]; exact rtry_mk HL.out HN.out M1.out K1.out F1'.out (kW _ _) lW)
  · have d1 : (f + 1 == tries) = false := beq_eq_false_iff_ne.2 hft
    have hsv := hid (HST.out.trans (if_neg hft))
    clear hft
    go_quiet (fail)
    go_wp2
    go_quiet (fail)
    go_wp2
    go_ret2
    rw [hsv.out]
    have lW : RLockAt (((w2.drewN 0).setCell ⟨lb, 5, none⟩ (.bool false)).drewN 0) lb rb ⟨f + 1, tries, t, a, true, 0⟩ := (show ((w2.drewN 0).setCell ⟨lb, 5, none⟩ (.bool false)).heap[lb]? = _ from set_same (show (w2.drewN 0).heap[lb]? = _ from L2.out) _)
    have kW := fun m0 m => Keep.trans K2.out (Keep.drewN (Keep.setCell ((Keep.refl (fun k => k = lb) w2).drewN m0) (.inl (rfl : (⟨lb, 5, none⟩ : Addr).block = lb)) (.bool false)) m) (fun _ _ h => h)
    first
      | exact rtry_mk HL.out HN.out M1.out K1.out F1'.out (kW _ _) lW
      | (rw [d1]; exact rtry_mk HL.out HN.out M1.out K1.out F1'.out (kW _ _) lW)

/-! Unlock. -/
set_option maxHeartbeats 1000000 in
theorem runlock_err (h : RefAt w rb G ws log) (t a : Int) (he : lckErr t a 0 ws.length ≠ 0) :
    Calls Try.prog 29 #[.pointer (some ⟨rb, 0, none⟩), .int .i64 t, .int .i64 a] w fun e w' => e = .returned (.int .i64 (lckErr t a 0 ws.length)) ∧ w = w' := by
  obtain ⟨r, hr⟩ : ∃ r, r = lckErr t a 0 ws.length := ⟨_, rfl⟩
  have hne : (r != 0) = true := by rw [bne_iff_ne, hr]; exact he
  have hc := rlcheck_any h t a 0
  rw [← hr] at hc ⊢
  have HC := hid hc
  clear h he hr hc
  go_enter Try.func29, Try.ntmps29
  go_wp2_with fail
  refine HC.out.mono ?_
  rintro e w' ⟨rfl, rfl⟩
  go_wp2
  go_ret
  exact ⟨rfl, rfl⟩
set_option maxHeartbeats 1000000 in
theorem runlock_state (h : RefAt w rb G ws log) (t a : Int) (he : lckErr t a 0 ws.length = 0) (x : Int) (hx : ws[a.toNat]? = some x) (hne : x ≠ t + 1) :
    Calls Try.prog 29 #[.pointer (some ⟨rb, 0, none⟩), .int .i64 t, .int .i64 a] w fun e w' => e = .returned (.int .i64 8) ∧ w = w' := by
  have hc := rlcheck_any h t a 0
  rw [he] at hc
  obtain ⟨⟨t0, t1, -, -⟩, a0, a1⟩ := lckErr_zero he
  obtain ⟨gw, wc, c0, cw⟩ := rl_len h
  obtain ⟨n, rfl⟩ := Int.eq_ofNat_of_zero_le a0
  have cx := cw n x (by simpa using hx)
  have d1 : (x != t + 1) = true := bne_iff_ne.2 hne
  have hw0 : IntKind.u64.wrap t = t := by rw [IntKind.wrap_u64]; omega
  have hw : IntKind.u64.wrap (t + 1) = t + 1 := by rw [IntKind.wrap_u64]; omega
  have HC := hid hc
  clear h he hc hx hne cw
  go_enter Try.func29, Try.ntmps29
  go_wp2_with fail
  refine HC.out.mono ?_
  rintro e w' ⟨rfl, rfl⟩
  go_wp2
  go_ret
  exact ⟨rfl, rfl⟩
set_option maxHeartbeats 1000000 in
theorem runlock_ok (h : RefAt w rb G ws log) (t a : Int) (he : lckErr t a 0 ws.length = 0) (hx : ws[a.toNat]? = some (t + 1)) (hlog : log.length < 1000000000000) :
    Calls Try.prog 29 #[.pointer (some ⟨rb, 0, none⟩), .int .i64 t, .int .i64 a] w fun e w' => e = .returned (.int .i64 0) ∧ RefTo w rb G (ws.set a.toNat 0) (log ++ [⟨t, a, 2, t + 1, 0, false⟩]) w' := by
  have hc := rlcheck_any h t a 0
  rw [he] at hc
  obtain ⟨⟨t0, t1, -, -⟩, a0, a1⟩ := lckErr_zero he
  have hs := rstore_ok h t a (t + 1) 0 t0 t1 a0 hx hlog
  obtain ⟨gw, wc, c0, cw⟩ := rl_len h
  obtain ⟨n, rfl⟩ := Int.eq_ofNat_of_zero_le a0
  have cx := cw n (t + 1) (by simpa using hx)
  have d1 : (t + 1 != t + 1) = false := by simp
  have hw0 : IntKind.u64.wrap t = t := by rw [IntKind.wrap_u64]; omega
  have hw : IntKind.u64.wrap (t + 1) = t + 1 := by rw [IntKind.wrap_u64]; omega
  have HC := hid hc
  have HS := hid hs
  clear h he hc hx hs cw
  go_enter Try.func29, Try.ntmps29
  go_wp2_with fail
  refine HC.out.mono ?_
  rintro e w' ⟨rfl, rfl⟩
  go_wp2_with fail
  refine HS.out.mono ?_
  rintro e w1 ⟨rfl, hto⟩
  have HT := hid hto
  clear hto
  go_wp2
  go_ret
  exact ⟨rfl, HT.out⟩
end
end Go.Proofs.Ytckopbjejjeknaa
