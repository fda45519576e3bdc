/- each: what a thread does next: contracts. -/
import Derived.Test.YtihgfklajhhikaaEachOps4
import Derived.Test.YtihgfklajhhikaaEachInv
namespace Go.Proofs.Ytihgfklajhhikaa
open Go.RowKit Go.Lf
section
variable {w wr : World} {rb g sb cb mb : Nat} {F : Nat → Prop} {sl : List (Int × Bool)} {ws : List Int} {th : List ET} {log : List Acc}

set_option maxRecDepth 100000 in
set_option maxHeartbeats 8000000 in
theorem erwait_ok (h : ERunAt w wr rb g sb cb mb F sl ws th log) (t : Nat) (x : ET) (b : Nat) (s : EWS) (hx : th[t]? = some x) (hb : x.wt = some (b, s)) (hst : s.st < 3) (hpos : s.pos < 6) (y : Int) (hy : ws[s.addr]? = some y) (y0 : 0 ≤ y) (y1 : s.st = 1 → y < 64) (qb : Nat) (l : List Int) (hmu : x.mu = some (qb, l)) (hlog : log.length < 100000000000)
    (hs0 : 0 ≤ x.set) (hs1 : x.set < 18446744073709551616)
    (hok : (s.step 6 x.set y).st = 3 → ∀ (i : Nat) (z : ET) (m : Int), th[i]? = some z → l[i]? = some m → ¬ (0 < m ∧ z.inn = true ∧ z.sec = m)) :
    Calls Try.prog 70 #[.pointer (some ⟨rb, 0, none⟩), .int .i64 t] wr fun e w' => e = .returned (.bool true) ∧ ERunTo w rb g sb cb mb sl ws (th.set t { x with wt := if (s.step 6 x.set y).st = 3 then none else some (b, s.step 6 x.set y) }) (log.length + 1) w' := by
  have t6 : t < 6 := by have := lt_of_at hx; have := h.lth; omega
  obtain ⟨c0, c1, c2, c3, c4, c5, c6⟩ := h.cells hx
  rw [hb] at c1
  simp only [ptrO] at c1
  obtain ⟨w1, w2, w3⟩ := h.waits t x b s hx hb
  have ln := h.lsl
  obtain ⟨sn, hsn⟩ := Int.eq_ofNat_of_zero_le hs0
  have hstep := ewait_step (sn := sn) (by omega) h.sys (by rw [← hsn]; exact w1) w2 (by omega) hst y y0 y1 (by omega) (by omega) (Int.le_refl 0) (by decide) (by rw [show ((0 : Int) + (s.addr : Int)).toNat = s.addr by omega]; exact hy) (by omega)
  rw [ln, ← hsn] at hstep
  obtain ⟨s', hs'⟩ : ∃ s', s' = s.step 6 x.set y := ⟨_, rfl⟩
  rw [← hs'] at hstep hok ⊢
  obtain ⟨wt', hwt'⟩ : ∃ wt' : Option (Nat × EWS), wt' = if s'.st = 3 then none else some (b, s') := ⟨_, rfl⟩
  rw [← hwt']
  have HWT := hid hwt'
  have ST := hid hstep
  have H := hid h
  have HX := hid hx
  have HB := hid hb
  have HM := hid hmu
  have OK := hid hok
  clear h hx hb hmu hok hy hstep hs' hwt' w1 w2 w3 c0 c2 c3 c4 c5 c6 ln hs0 hs1 hsn y1
  go_enter Try.func70, Try.ntmps70
  go_wp2_with fail
  refine ST.out.mono ?_
  rintro e w2 ht
  obtain ⟨rfl, F2, hr2⟩ := H.out.step HX.out HB.out ht
  have R2 := hid hr2
  clear ht hr2 c1
  by_cases hd : s'.st = 3
  · have d1 : (s'.st == 3) = true := beq_iff_eq.2 hd
    have OK2 := hid (OK.out hd)
    have hif : wt' = none := HWT.out.trans (if_pos hd)
    have HI := hid hif
    clear hif
    rw [d1]
    clear hd d1 OK ST
    have hx2 : (th.set t { x with wt := some (b, s') })[t]? = some { x with wt := some (b, s') } := put_self HX.out _
    have zf := R2.out.free (2 + t * 7 + 1)
    have r3 := R2.out.turn hx2 (j := 1) (by decide) (.pointer none) (x' := { x with wt := none }) rfl (.inr rfl) (.inl ⟨rfl, rfl⟩) rfl
    rw [List.set_set] at r3
    have c1 := (R2.out.cells hx2).2.1
    simp only [ptrO] at c1
    obtain ⟨W, hW⟩ : ∃ W, W = w2.setCell ⟨rb, 2 + t * 7 + 1, none⟩ (.pointer none) := ⟨_, rfl⟩
    rw [← hW] at r3
    have R3 := hid r3
    have HW := hid hW
    clear hx2 r3
    go_wp2
    rw [← hW]
    have HL := hid (R2.out.musts t { x with wt := some (b, s') } qb l (put_self HX.out _) HM.out)
    clear hW c1 zf HW R2
    go_loopw [8] (fun i wr' => ∃ k : Nat, k ≤ 6 ∧ i = .int .i64 k ∧ Hid (ERunAt w wr' rb g sb cb mb F2 sl ws (th.set t { x with wt := none }) (log ++ [⟨t, 0 + s.addr, 1, y, y, false⟩]))) (fun i _ => 6 - (intOf i).toNat)
    case atStart => exact ⟨0, by omega, rfl, R3⟩
    case round =>
      obtain ⟨k, hk, rfl, HR⟩ := hrel
      clear R3
      have hx3 : (th.set t { x with wt := none })[t]? = some { x with wt := none } := put_self HX.out _
      by_cases hlt : k < 6
      · obtain ⟨z, hz⟩ : ∃ z, th[k]? = some z := ⟨_, List.getElem?_eq_getElem (by have := H.out.lth; omega)⟩
        obtain ⟨hrow, -, -, hll⟩ := HR.out.musts t { x with wt := none } qb l hx3 HM.out
        obtain ⟨m, hm⟩ : ∃ m, l[k]? = some m := ⟨_, List.getElem?_eq_getElem (by omega)⟩
        have cm := cell_of hrow k
        rw [show (l.map (Value.int .i64)).toArray[k]? = some (.int .i64 m) by simp [hm]] at cm
        have c6 := (HR.out.cells hx3).2.2.2.2.2.2
        rw [HM.out] at c6
        simp only [mustV] at c6
        have hbad := OK2.out k z m hz hm
        obtain ⟨z', hz', e1, e2⟩ : ∃ z', (th.set t { x with wt := none })[k]? = some z' ∧ z'.inn = z.inn ∧ z'.sec = z.sec := by
          by_cases e : t = k
          · subst e
            rw [hx3]
            obtain rfl := Option.some.inj (HX.out.symm.trans hz)
            exact ⟨_, rfl, rfl, rfl⟩
          · exact ⟨z, by rw [List.getElem?_set, if_neg e]; exact hz, rfl, rfl⟩
        have cz := HR.out.cells hz'
        have ci := cz.2.2.1
        have cs := cz.2.2.2.2.1
        rw [e1] at ci
        rw [e2] at cs
        clear cz hz hm hrow hx3 hz' e1 e2 hll
        by_cases hm0 : 0 < m
        · have d2 : decide (0 < m) = true := decide_eq_true hm0
          by_cases hin : z.inn = true
          · rw [hin] at ci
            have d3 : (z.sec == m) = false := beq_eq_false_iff_ne.2 (fun e => hbad ⟨hm0, hin, e⟩)
            clear hbad hin hm0
            go_wp2
            go_quiet (fail)
            go_wp2
            go_roundw
            case rel => exact ⟨k + 1, by omega, by go_num, hid (HR.out.keep ((Keep.refl Nil _).drewN nq))⟩
            case measure => simp [intOf]; omega
          · have hin' : z.inn = false := by simpa using hin
            rw [hin'] at ci
            clear hbad hin hin' hm0
            go_wp2
            go_quiet (fail)
            go_wp2
            go_roundw
            case rel => exact ⟨k + 1, by omega, by go_num, hid (HR.out.keep ((Keep.refl Nil _).drewN nq))⟩
            case measure => simp [intOf]; omega
        · have d2 : decide (0 < m) = false := decide_eq_false hm0
          clear hbad hm0
          go_wp2
          go_quiet (fail)
          go_wp2
          go_roundw
          case rel => exact ⟨k + 1, by omega, by go_num, hid (HR.out.keep ((Keep.refl Nil _).drewN nq))⟩
          case measure => simp [intOf]; omega
      · obtain rfl : k = 6 := by omega
        go_wp2
        go_ret
        rw [HI.out]
        exact ⟨rfl, F2, _, HR.out, by simp⟩
  · have d1 : (s'.st == 3) = false := beq_eq_false_iff_ne.2 hd
    have hif : wt' = some (b, s') := HWT.out.trans (if_neg hd)
    have HI := hid hif
    clear hif
    rw [d1]
    clear hd d1 OK ST
    go_wp2
    go_ret
    rw [HI.out]
    exact ⟨rfl, F2, _, R2.out, by simp⟩

/-! enter. -/
set_option maxRecDepth 100000 in
set_option maxHeartbeats 8000000 in
theorem erenter_mark (h : ERunAt w wr rb g sb cb mb F sl ws th log) (t : Nat) (x : ET) (eb : Nat) (hx : th[t]? = some x) (hen : x.en = some (eb, 0)) (v0 : 0 ≤ x.val) (v1 : x.val < 64) (hlog : log.length < 100000000000) :
    Calls Try.prog 69 #[.pointer (some ⟨rb, 0, none⟩), .int .i64 t] wr fun e w' => e = .returned (.bool true) ∧ ERunTo w rb g sb cb mb sl (ws.set (2 * t + 1) x.val) (th.set t { x with en := some (eb, 1) }) (log.length + 1) w' := by
  have t6 : t < 6 := by have := lt_of_at hx; have := h.lth; omega
  obtain ⟨c0, c1, c2, c3, c4, c5, c6⟩ := h.cells hx
  rw [hen] at c0
  simp only [ptrO] at c0
  obtain ⟨e1, e2, e3⟩ := h.ents t x eb 0 hx hen
  obtain ⟨y, hy⟩ : ∃ y, ws[2 * t + 1]? = some y := ⟨_, List.getElem?_eq_getElem (by have := h.lws; omega)⟩
  have hsx := estep_mark h.sys e1 e2 y (by omega) (by omega) v0 v1 (by omega) (Int.le_refl 0) (by decide) (by rw [show ((0 : Int) + 2 * (t : Int) + 1).toNat = 2 * t + 1 by omega]; exact hy) (by omega)
  rw [show ((0 : Int) + 2 * (t : Int) + 1).toNat = 2 * t + 1 by omega] at hsx
  have ST := hid hsx
  have H := hid h
  have HX := hid hx
  have HE := hid hen
  clear h hx hen hsx hy e1 e2 e3 c1 c2 c3 c4 c5 c6
  go_enter Try.func69, Try.ntmps69
  go_wp2_with fail
  refine ST.out.mono ?_
  rintro e w2 ⟨rfl, hq⟩
  obtain ⟨F2, r2⟩ := H.out.estep HX.out HE.out H.out.lsl (by rw [List.length_set]; exact H.out.lws) hq
  have R2 := hid r2
  clear r2 hq ST c0
  go_wp2
  go_ret
  exact ⟨rfl, F2, _, R2.out, by simp⟩
set_option maxRecDepth 100000 in
set_option maxHeartbeats 8000000 in
theorem erenter_seq (h : ERunAt w wr rb g sb cb mb F sl ws th log) (t : Nat) (x : ET) (eb : Nat) (hx : th[t]? = some x) (hen : x.en = some (eb, 1)) (n : Int) (b : Bool) (hn : sl[t]? = some (n, b)) (n0 : 0 ≤ n) (n1 : n < 1000000000000) (hlog : log.length < 100000000000) (hsec : 0 ≤ x.sec) (hsec1 : x.sec < 1000000000000) :
    Calls Try.prog 69 #[.pointer (some ⟨rb, 0, none⟩), .int .i64 t] wr fun e w' => e = .returned (.bool true) ∧ ERunTo w rb g sb cb mb (sl.set t (n + 1, false)) (ws.set (2 * t) (n + 1)) (th.set t { x with en := none, inn := true, sec := x.sec + 1 }) (log.length + 1) w' := by
  have t6 : t < 6 := by have := lt_of_at hx; have := h.lth; omega
  obtain ⟨c0, c1, c2, c3, c4, c5, c6⟩ := h.cells hx
  rw [hen] at c0
  simp only [ptrO] at c0
  obtain ⟨e1, e2, e3⟩ := h.ents t x eb 1 hx hen
  have ln := h.lsl
  obtain ⟨y, hy⟩ : ∃ y, ws[2 * t]? = some y := ⟨_, List.getElem?_eq_getElem (by have := h.lws; omega)⟩
  have hsx := estep_seq h.sys e1 e2 n y b (by omega) (by omega) hn n0 n1 (Int.le_refl 0) (by decide) (by omega) (by rw [show ((0 : Int) + 2 * (t : Int)).toNat = 2 * t by omega]; exact hy) (by omega)
  rw [show ((0 : Int) + 2 * (t : Int)).toNat = 2 * t by omega] at hsx
  have ST := hid hsx
  have H := hid h
  have HX := hid hx
  have HE := hid hen
  clear h hx hen hsx hy e1 e2 e3 c1 c2 c3 c5 c6 hn ln
  go_enter Try.func69, Try.ntmps69
  go_wp2_with fail
  refine ST.out.mono ?_
  rintro e w2 ⟨rfl, hq⟩
  obtain ⟨F2, r2⟩ := H.out.estep HX.out HE.out (by rw [List.length_set]; exact H.out.lsl) (by rw [List.length_set]; exact H.out.lws) hq
  have z0 := r2.free (2 + t * 7)
  have z2 := r2.free (2 + t * 7 + 2)
  have z4 := r2.free (2 + t * 7 + 4)
  obtain ⟨d0, d1, d2, d3, d4, d5, d6⟩ := r2.cells (put_self HX.out _)
  simp only [ptrO] at d0
  simp only at d2 d4
  have a0 := r2.turn (put_self HX.out _) (j := 0) (by decide) (.pointer none) (x' := { x with en := none }) rfl (.inl ⟨rfl, rfl⟩) (.inr rfl) rfl
  rw [List.set_set] at a0
  have a2 := a0.turn (put_self HX.out _) (j := 2) (by decide) (.bool true) (x' := { x with en := none, inn := true }) rfl (.inl ⟨rfl, rfl⟩) (.inr rfl) rfl
  rw [List.set_set] at a2
  have a4 := a2.turn (put_self HX.out _) (j := 4) (by decide) (.int .i64 (x.sec + 1)) (x' := { x with en := none, inn := true, sec := x.sec + 1 }) rfl (.inl ⟨rfl, rfl⟩) (.inr rfl) rfl
  rw [List.set_set] at a4
  have A4 := hid a4
  clear ST r2 hq a0 a2 a4 c0 c4 d1 d3 d5 d6
  go_wp2
  go_ret
  exact ⟨rfl, F2, _, A4.out, by simp⟩

/-! act. -/
set_option maxRecDepth 100000 in
set_option maxHeartbeats 4000000 in
theorem eact_out (h : ERunAt w wr rb g sb cb mb F sl ws th log) (t : Nat) (x : ET) (hx : th[t]? = some x) (hen : x.en = none) (hwt : x.wt = none) (hin : x.inn = true) (what v s : Int) (h0 : 0 ≤ what) (hw : 1 < what % 4) :
    Calls Try.prog 30 #[.pointer (some ⟨rb, 0, none⟩), .int .i64 t, .int .u8 what, .int .i64 v, .int .u64 s] wr fun e w' => e = .returned (.bool true) ∧ wr = w' := by
  have t6 : t < 6 := by have := lt_of_at hx; have := h.lth; omega
  obtain ⟨c0, c1, c2, c3, c4, c5, c6⟩ := h.cells hx
  rw [hen] at c0
  rw [hwt] at c1
  rw [hin] at c2
  simp only [ptrO] at c0
  simp only [ptrO] at c1
  have d1 : decide (1 < what % 4) = true := decide_eq_true hw
  clear h hx hen hwt hin hw c3 c4 c5 c6
  go_enter Try.func30, Try.ntmps30
  go_wp2
  go_ret
  exact ⟨rfl, rfl⟩
set_option maxRecDepth 100000 in
set_option maxHeartbeats 4000000 in
theorem eact_exit (h : ERunAt w wr rb g sb cb mb F sl ws th log) (t : Nat) (x : ET) (hx : th[t]? = some x) (hen : x.en = none) (hwt : x.wt = none) (hin : x.inn = true) (what v s : Int) (h0 : 0 ≤ what) (hw : ¬ 1 < what % 4) (n : Int) (b : Bool) (hn : sl[t]? = some (n, b)) (n0 : 0 ≤ n) (n1 : n < 1000000000000) (hodd : n % 2 = 1) (hlog : log.length < 100000000000) :
    Calls Try.prog 30 #[.pointer (some ⟨rb, 0, none⟩), .int .i64 t, .int .u8 what, .int .i64 v, .int .u64 s] wr fun e w' => e = .returned (.bool true) ∧ ERunTo w rb g sb cb mb (sl.set t (n + 1, b)) (ws.set (2 * t) (n + 1)) (th.set t { x with inn := false }) (log.length + 1) w' := by
  have t6 : t < 6 := by have := lt_of_at hx; have := h.lth; omega
  obtain ⟨c0, c1, c2, c3, c4, c5, c6⟩ := h.cells hx
  rw [hen] at c0
  rw [hwt] at c1
  rw [hin] at c2
  simp only [ptrO] at c0
  simp only [ptrO] at c1
  have cg := h.top.2
  have ln := h.lsl
  have d1 : decide (1 < what % 4) = false := decide_eq_false hw
  obtain ⟨y, hy⟩ : ∃ y, ws[2 * t]? = some y := ⟨_, List.getElem?_eq_getElem (by have := h.lws; omega)⟩
  have hsx := eexit_ok (t := (t : Int)) h.sys n y b (by omega) (by omega) hn n0 n1 hodd (Int.le_refl 0) (by decide) (by omega) (by rw [show ((0 : Int) + 2 * (t : Int)).toNat = 2 * t by omega]; exact hy) (by omega)
  rw [show ((0 : Int) + 2 * (t : Int)).toNat = 2 * t by omega] at hsx
  have ST := hid hsx
  have H := hid h
  have HX := hid hx
  have HEN := hid hen
  clear h hx hen hwt hin hw hn hsx hodd hy c3 c4 c5 c6
  go_enter Try.func30, Try.ntmps30
  go_wp2_with fail
  refine ST.out.mono ?_
  rintro e w2 ⟨rfl, F2, hs2, hk2, hf2⟩
  have r2 := H.out.adv hs2 hk2 hf2 (fun k hk _ => hk) (by simp [ln]) (by rw [List.length_set]; exact H.out.lws)
  have z2 := r2.free (2 + t * 7 + 2)
  have d2 := (r2.cells HX.out).2.2.1
  have a2 := r2.turn HX.out (j := 2) (by decide) (.bool false) (x' := { x with inn := false }) rfl (.inl ⟨rfl, rfl⟩) (.inl ⟨rfl, rfl⟩) rfl
  have A2 := hid a2
  clear ST hs2 hk2 hf2 r2 a2 c0 c1 c2 cg
  go_wp2
  go_ret
  exact ⟨rfl, F2, _, A2.out, by simp⟩
set_option maxRecDepth 100000 in
set_option maxHeartbeats 4000000 in
theorem eact_wait (h : ERunAt w wr rb g sb cb mb F sl ws th log) (t : Nat) (x : ET) (b : Nat) (s0 : EWS) (hx : th[t]? = some x) (hen : x.en = none) (hb : x.wt = some (b, s0)) (what v s : Int) {e0 : Bool} {Q : World → Prop}
    (hc : Calls Try.prog 70 #[.pointer (some ⟨rb, 0, none⟩), .int .i64 t] wr fun e w' => e = .returned (.bool e0) ∧ Q w') :
    Calls Try.prog 30 #[.pointer (some ⟨rb, 0, none⟩), .int .i64 t, .int .u8 what, .int .i64 v, .int .u64 s] wr fun e w' => e = .returned (.bool e0) ∧ Q w' := by
  have t6 : t < 6 := by have := lt_of_at hx; have := h.lth; omega
  obtain ⟨c0, c1, c2, c3, c4, c5, c6⟩ := h.cells hx
  rw [hen] at c0
  rw [hb] at c1
  simp only [ptrO] at c0
  simp only [ptrO] at c1
  have HC := hid hc
  clear h hx hen hb hc c2 c3 c4 c5 c6
  go_enter Try.func30, Try.ntmps30
  go_wp2_with fail
  refine HC.out.mono ?_
  rintro e w2 ⟨rfl, hq⟩
  have HQ := hid hq
  clear hq
  go_wp2
  go_ret
  exact ⟨rfl, HQ.out⟩
set_option maxRecDepth 100000 in
set_option maxHeartbeats 4000000 in
theorem eact_en (h : ERunAt w wr rb g sb cb mb F sl ws th log) (t : Nat) (x : ET) (b k : Nat) (hx : th[t]? = some x) (hen : x.en = some (b, k)) (what v s : Int) {e0 : Bool} {Q : World → Prop}
    (hc : Calls Try.prog 69 #[.pointer (some ⟨rb, 0, none⟩), .int .i64 t] wr fun e w' => e = .returned (.bool e0) ∧ Q w') :
    Calls Try.prog 30 #[.pointer (some ⟨rb, 0, none⟩), .int .i64 t, .int .u8 what, .int .i64 v, .int .u64 s] wr fun e w' => e = .returned (.bool e0) ∧ Q w' := by
  have t6 : t < 6 := by have := lt_of_at hx; have := h.lth; omega
  obtain ⟨c0, c1, c2, c3, c4, c5, c6⟩ := h.cells hx
  rw [hen] at c0
  simp only [ptrO] at c0
  have HC := hid hc
  clear h hx hen hc c1 c2 c3 c4 c5 c6
  go_enter Try.func30, Try.ntmps30
  go_wp2_with fail
  refine HC.out.mono ?_
  rintro e w2 ⟨rfl, hq⟩
  have HQ := hid hq
  clear hq
  go_wp2
  go_ret
  exact ⟨rfl, HQ.out⟩
end
end Go.Proofs.Ytihgfklajhhikaa
