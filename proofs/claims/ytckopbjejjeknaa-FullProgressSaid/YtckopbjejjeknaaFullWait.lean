/- full: a thread's step of its wait: contract. -/
import Derived.Test.YtckopbjejjeknaaFullRun
namespace Go.Proofs.Ytckopbjejjeknaa
open Go.RowKit Go.Lf
section
variable {w wr : World} {rb g nb bb mb : Nat} {F : Nat → Prop} {nums : List Int} {beg : List Bool} {th : List PT} {log : List Acc}

set_option maxRecDepth 100000 in
set_option maxHeartbeats 8000000 in
theorem rwait_ok (h : RunAt w wr rb g nb bb mb F nums beg th log) (t : Nat) (x : PT) (b : Nat) (s : WS) (hx : th[t]? = some x) (hb : x.wt = some (b, s)) (hst : s.st < 2) (hpos : s.pos < 6) (y : Int) (hy : nums[s.pos]? = some y) (y0 : 0 ≤ y) (sb : Nat) (l : List Int) (hmu : x.mu = some (sb, l)) (hlog : log.length < 100000000000)
    (hok : 2 ≤ (s.step 6 y).st → ∀ (i : Nat) (z : PT) (m : Int), th[i]? = some z → l[i]? = some m → ¬ (0 < m ∧ z.inn = true ∧ z.sec = m)) :
    Calls Try.prog 66 #[.pointer (some ⟨rb, 0, none⟩), .int .i64 t] wr fun e w' => e = .returned (.bool true) ∧ RunTo w rb g nb bb mb nums beg (th.set t { x with wt := if 2 ≤ (s.step 6 y).st then none else some (b, s.step 6 y) }) (log.length + 1) w' := by
  have t6 : t < 6 := by have := lt_of_at hx; have := h.lth; omega
  obtain ⟨c0, c1, c2, c3, c4, c5, c6⟩ := h.cells hx
  rw [hb] at c1
  simp only [ptrW] at c1
  obtain ⟨w1, w2, w3⟩ := h.waits t x b s hx hb
  have ln := h.lnum
  have hstep := fwait_step h.sys w1 w2 (by omega) hst y y0 (by omega) (by omega) (Int.le_refl 0) (by decide) (by rw [show ((0 : Int) + (s.pos : Int)).toNat = s.pos by omega]; exact hy) (by omega)
  rw [ln] at hstep
  obtain ⟨s', hs'⟩ : ∃ s', s' = s.step 6 y := ⟨_, rfl⟩
  rw [← hs'] at hstep hok ⊢
  obtain ⟨wt', hwt'⟩ : ∃ wt' : Option (Nat × WS), wt' = if 2 ≤ s'.st then none else some (b, s') := ⟨_, rfl⟩
  rw [← hwt']
  have HWT := hid hwt'
  have ST := hid hstep
  have H := hid h
  have HX := hid hx
  have HB := hid hb
  have HM := hid hmu
  have OK := hid hok
  clear h hx hb hmu hok hy hstep hs' hwt' w1 w2 w3 c0 c2 c3 c4 c5 c6 ln
  go_enter Try.func66, Try.ntmps66
  go_wp2_with fail
  refine ST.out.mono ?_
  rintro e w2 ht
  obtain ⟨rfl, F2, hr2⟩ := H.out.step HX.out HB.out ht
  have R2 := hid hr2
  clear ht hr2 c1
  by_cases hd : 2 ≤ s'.st
  · have d1 : decide (2 ≤ s'.st) = true := decide_eq_true hd
    have OK2 := hid (OK.out hd)
    have hif : wt' = none := HWT.out.trans (if_pos hd)
    have HI := hid hif
    clear hif
    rw [d1]
    clear hd d1 OK ST
    have hx2 : (th.set t { x with wt := some (b, s') })[t]? = some { x with wt := some (b, s') } := by rw [List.getElem?_set, if_pos rfl, if_pos (lt_of_at HX.out)]
    have zf := R2.out.free (2 + t * 7 + 1)
    have r3 := R2.out.turn hx2 (j := 1) (by decide) (.pointer none) (x' := { x with wt := none }) rfl (.inr rfl) rfl
    rw [List.set_set] at r3
    have c1 := (R2.out.cells hx2).2.1
    simp only [ptrW] at c1
    obtain ⟨W, hW⟩ : ∃ W, W = w2.setCell ⟨rb, 2 + t * 7 + 1, none⟩ (.pointer none) := ⟨_, rfl⟩
    rw [← hW] at r3
    have R3 := hid r3
    have HW := hid hW
    clear hx2 r3
    go_wp2
    rw [← hW]
    have HL := hid (R2.out.musts t { x with wt := some (b, s') } sb l (by rw [List.getElem?_set, if_pos rfl, if_pos (lt_of_at HX.out)]) HM.out)
    clear hW c1 zf HW R2
    go_loopw [8] (fun i wr' => ∃ k : Nat, k ≤ 6 ∧ i = .int .i64 k ∧ Hid (RunAt w wr' rb g nb bb mb F2 nums beg (th.set t { x with wt := none }) (log ++ [⟨t, 0 + s.pos, 1, y, y, false⟩]))) (fun i _ => 6 - (intOf i).toNat)
    case atStart => exact ⟨0, by omega, rfl, R3⟩
    case round =>
      obtain ⟨k, hk, rfl, HR⟩ := hrel
      clear R3
      have hx3 : (th.set t { x with wt := none })[t]? = some { x with wt := none } := by rw [List.getElem?_set, if_pos rfl, if_pos (lt_of_at HX.out)]
      by_cases hlt : k < 6
      · obtain ⟨z, hz⟩ : ∃ z, th[k]? = some z := ⟨_, List.getElem?_eq_getElem (by have := H.out.lth; omega)⟩
        obtain ⟨hrow, -, -, hll⟩ := HR.out.musts t { x with wt := none } sb l hx3 HM.out
        obtain ⟨m, hm⟩ : ∃ m, l[k]? = some m := ⟨_, List.getElem?_eq_getElem (by omega)⟩
        have cm := cell_of hrow k
        rw [show (l.map (Value.int .i64)).toArray[k]? = some (.int .i64 m) by simp [hm]] at cm
        have c6 := (HR.out.cells hx3).2.2.2.2.2.2
        rw [HM.out] at c6
        simp only [mustV] at c6
        have hbad := OK2.out k z m hz hm
        obtain ⟨z', hz', e1, e2⟩ : ∃ z', (th.set t { x with wt := none })[k]? = some z' ∧ z'.inn = z.inn ∧ z'.sec = z.sec := by
          by_cases e : t = k
          · subst e
            rw [hx3]
            obtain rfl := Option.some.inj (HX.out.symm.trans hz)
            exact ⟨_, rfl, rfl, rfl⟩
          · exact ⟨z, by rw [List.getElem?_set, if_neg e]; exact hz, rfl, rfl⟩
        have cz := HR.out.cells hz'
        have ci := cz.2.2.1
        have cs := cz.2.2.2.2.1
        rw [e1] at ci
        rw [e2] at cs
        clear cz hz hm hrow hx3 hz' e1 e2 hll
        by_cases hm0 : 0 < m
        · have d2 : decide (0 < m) = true := decide_eq_true hm0
          by_cases hin : z.inn = true
          · rw [hin] at ci
            have d3 : (z.sec == m) = false := beq_eq_false_iff_ne.2 (fun e => hbad ⟨hm0, hin, e⟩)
            clear hbad hin hm0
            go_wp2
            go_quiet (fail)
            go_wp2
            go_roundw
            case rel => exact ⟨k + 1, by omega, by go_num, hid (HR.out.keep ((Keep.refl Nil _).drewN nq))⟩
            case measure => simp [intOf]; omega
          · have hin' : z.inn = false := by simpa using hin
            rw [hin'] at ci
            clear hbad hin hin' hm0
            go_wp2
            go_quiet (fail)
            go_wp2
            go_roundw
            case rel => exact ⟨k + 1, by omega, by go_num, hid (HR.out.keep ((Keep.refl Nil _).drewN nq))⟩
            case measure => simp [intOf]; omega
        · have d2 : decide (0 < m) = false := decide_eq_false hm0
          clear hbad hm0
          go_wp2
          go_quiet (fail)
          go_wp2
          go_roundw
          case rel => exact ⟨k + 1, by omega, by go_num, hid (HR.out.keep ((Keep.refl Nil _).drewN nq))⟩
          case measure => simp [intOf]; omega
      · obtain rfl : k = 6 := by omega
        go_wp2
        go_ret
        rw [HI.out]
        exact ⟨rfl, F2, _, HR.out, by simp⟩
  · have d1 : decide (2 ≤ s'.st) = false := decide_eq_false hd
    have hif : wt' = some (b, s') := HWT.out.trans (if_neg hd)
    have HI := hid hif
    clear hif
    rw [d1]
    clear hd d1 OK ST
    go_wp2
    go_ret
    rw [HI.out]
    exact ⟨rfl, F2, _, R2.out, by simp⟩
end
end Go.Proofs.Ytckopbjejjeknaa
