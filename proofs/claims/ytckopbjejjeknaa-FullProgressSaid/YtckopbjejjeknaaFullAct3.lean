/- full: a thread begins to wait: contract. -/
import Derived.Test.YtckopbjejjeknaaFullAct2
namespace Go.Proofs.Ytckopbjejjeknaa
open Go.RowKit Go.Lf
section
variable {w wr : World} {rb g nb bb mb : Nat} {F : Nat → Prop} {nums : List Int} {beg : List Bool} {th : List PT} {log : List Acc}

/-- A wait has begun, and has made its first step. -/
def BeginTo (w : World) (rb g nb bb mb : Nat) (nums : List Int) (beg : List Bool) (th : List PT) (t : Nat) (x : PT) (s y : Int) (n : Nat) (w' : World) : Prop :=
  ∃ b sb, RunTo w rb g nb bb mb nums beg (th.set t { x with wt := some (b, WS.step 6 y ⟨0, 0, 0⟩), set := s, mu := some (sb, mList th 6) }) n w'
theorem make_six (w : World) : (Instr.makeSlice 39 (.int .i64 6) (.int .i64 6)).run Try.prog w = .ok (.slice (some ⟨w.heap.size, 0, none⟩) 6 6) (w.alloc (.cells #[.int .i64 0, .int .i64 0, .int .i64 0, .int .i64 0, .int .i64 0, .int .i64 0] 3)) := by kernel_rfl
theorem first_step (y : Int) : (WS.step 6 y ⟨0, 0, 0⟩).st < 2 := by
  unfold WS.step WS.next
  simp only [if_pos]
  split
  · simp
  · simp

set_option maxRecDepth 100000 in
set_option maxHeartbeats 8000000 in
theorem act_begin (h : RunAt w wr rb g nb bb mb F nums beg th log) (t : Nat) (x : PT) (hx : th[t]? = some x) (hen : x.en = none) (hwt : x.wt = none) (hin : x.inn = false) (what v s : Int) (h0 : 0 ≤ what) (hw : ¬ what % 4 < 2) (hs : s ≠ 0) (y : Int) (hy : nums[0]? = some y) (y0 : 0 ≤ y) (hlog : log.length < 100000000000) :
    Calls Try.prog 37 #[.pointer (some ⟨rb, 0, none⟩), .int .i64 t, .int .u8 what, .int .i64 v, .int .u64 s] wr fun e w' => e = .returned (.bool true) ∧ BeginTo w rb g nb bb mb nums beg th t x s y (log.length + 1) w' := by
  have t6 : t < 6 := by have := lt_of_at hx; have := h.lth; omega
  obtain ⟨c0, c1, c2, c3, c4, c5, c6⟩ := h.cells hx
  rw [hen] at c0
  rw [hwt] at c1
  rw [hin] at c2
  simp only [ptrE] at c0
  simp only [ptrW] at c1
  have cg := h.top.2
  have qm := make_six
  have d1 : decide (what % 4 < 2) = false := decide_eq_false hw
  have ST := hid (@fwait_ok wr g (t : Int) (by omega) (by omega) s hs)
  have H := hid h
  have HX := hid hx
  have HY := hid hy
  have HM := hid (fun (v : World) (h : RunAt w v rb g nb bb mb F nums beg th log) => (h.cells hx).2.2.2.2.2)
  clear h hx hen hwt hin hw hy hs c4 c5 c6 c3
  go_enter Try.func37, Try.ntmps37
  go_wp2_with fail
  refine ST.out.mono ?_
  rintro e w2 ⟨rfl, hw2, hk2, hz2⟩
  have r2 := H.out.keep hk2
  have hrb := lt_of_block r2.run
  have z1 := r2.free (2 + t * 7 + 1)
  have z5 := r2.free (2 + t * 7 + 5)
  have z6 := r2.free (2 + t * 7 + 6)
  obtain ⟨m5, m6⟩ := HM.out _ r2
  have q1 := hk2.cell c1 (fun h => h)
  have R2 := hid r2
  have W2 := hid hw2
  have K2 := hid hk2
  have Z2 := hid hz2
  clear ST hw2 hk2 hz2 r2 c0 c1 c2 cg HM
  go_wp2
  have hle : w.heap.size ≤ wr.heap.size := H.out.own.1.size
  have hz : w2.heap.size = wr.heap.size + 1 := Z2.out
  have nF1 : ¬ F wr.heap.size := fun hF => absurd (H.out.sys.mem.lt _ hF) (Nat.lt_irrefl _)
  have nF2 : ¬ F w2.heap.size := fun hF => by have := H.out.sys.mem.lt _ hF; omega
  have hk3 : Keep Nil w2 (w2.alloc (.cells #[.int .i64 0, .int .i64 0, .int .i64 0, .int .i64 0, .int .i64 0, .int .i64 0] 3)) := (Keep.refl Nil w2).alloc _
  have r4 := (R2.out.keep hk3).addWait HX.out (W2.out.keepW hk3 (fun h => h)) (l := mList th 0) (sb := w2.heap.size) (by rw [mList_zero]; exact heap_alloc_new w2 _) (mList_len th 0) nF1 nF2 hle (by omega) (fun i y c u h1 h2 e => by
    have := lt_of_block (H.out.waits i y c u h1 h2).1; omega) s
  rw [World.setCell_alloc_past _ _ _ _ hrb, World.setCell_alloc_past _ _ _ _ (by simpa using hrb), World.setCell_alloc_past _ _ _ _ (by simpa using hrb)] at r4
  have R4 := hid r4
  have NE := hid (show ∀ (i : Nat) (y : PT) (c : Nat) (l' : List Int), i ≠ t → th[i]? = some y → y.mu = some (c, l') → c ≠ w2.heap.size from fun i y c l' _ h1 h2 e => by
    have := lt_of_block (H.out.musts i y c l' h1 h2).1; omega)
  have HN := hid H.out.lnum
  have HT := hid H.out.lth
  clear r4 hk3 nF1 nF2 hle hz R2 W2 K2 Z2 H
  go_region_law (fail)
  all_goals
    go_wp2
    generalize wr.heap.size = b0 at *
    generalize w2.heap.size = sb at *
    clear z1 z5 z6 m5 m6 q1 hrb
    go_loopw [18] (fun i wq => ∃ k : Nat, k ≤ 6 ∧ i = .int .i64 k ∧ Hid (RunAt w wq rb g nb bb mb F nums beg (th.set t { x with wt := some (b0, ⟨0, 0, 0⟩), set := s, mu := some (sb, mList th k) }) log)) (fun i _ => 6 - (intOf i).toNat)
    case atStart => exact ⟨0, by omega, rfl, hid (R4.out.keep (Keep.refl Nil _).drew)⟩
    case round =>
      obtain ⟨k, hk, rfl, HR⟩ := hrel
      clear R4
      have hx3 : (th.set t { x with wt := some (b0, ⟨0, 0, 0⟩), set := s, mu := some (sb, mList th k) })[t]? = some { x with wt := some (b0, ⟨0, 0, 0⟩), set := s, mu := some (sb, mList th k) } := set_self HX.out _
      by_cases hlt : k < 6
      · obtain ⟨z, hz⟩ : ∃ z, th[k]? = some z := ⟨_, List.getElem?_eq_getElem (by have := HT.out; omega)⟩
        obtain ⟨hrow, -, -, hll⟩ := HR.out.musts t _ sb (mList th k) hx3 rfl
        have c6 := (HR.out.cells hx3).2.2.2.2.2.2
        simp only [mustV] at c6
        obtain ⟨z', hz', e1, e2⟩ : ∃ z', (th.set t { x with wt := some (b0, ⟨0, 0, 0⟩), set := s, mu := some (sb, mList th k) })[k]? = some z' ∧ z'.inn = z.inn ∧ z'.sec = z.sec := by
          by_cases e : t = k
          · subst e
            rw [hx3]
            obtain rfl := Option.some.inj (HX.out.symm.trans hz)
            exact ⟨_, rfl, rfl, rfl⟩
          · exact ⟨z, by rw [List.getElem?_set, if_neg e]; exact hz, rfl, rfl⟩
        have cz := HR.out.cells hz'
        have ci := cz.2.2.1
        have cs := cz.2.2.2.2.1
        rw [e1] at ci
        rw [e2] at cs
        have HZ := hid hz
        by_cases hin' : z.inn = true
        · rw [hin'] at ci
          have hu := (HR.out.keep (Keep.refl Nil _).drew).setMust hx3 rfl (fun i y c l' h1 h2 h3 => NE.out i y c l' h1 (by rw [List.getElem?_set, if_neg (fun e => h1 e.symm)] at h2; exact h2) h3) k z.sec
          rw [List.set_set] at hu
          simp only at hu
          rw [← mList_yes hlt hz hin'] at hu
          have HU := hid hu
          have zr := free_of hrow k
          have co := cell_of hrow k
          rw [show ((mList th k).map (Value.int .i64)).toArray[k]? = some (.int .i64 0) by simp [mList_at th k k hlt]] at co
          clear cz hz hrow hx3 hz' e1 e2 hll hin' hu
          go_wp2
          go_still_tail 13, (by kernel_rfl)
          change wpList _ _ _ _ _ wr.drew
          go_wp2
          go_roundw
          case rel => exact ⟨k + 1, by omega, by go_num, HU⟩
          case measure => simp [intOf]; omega
        · have hin2 : z.inn = false := by simpa using hin'
          rw [hin2] at ci
          have HU := hid (show RunAt w _ rb g nb bb mb F nums beg (th.set t { x with wt := some (b0, ⟨0, 0, 0⟩), set := s, mu := some (sb, mList th (k + 1)) }) log from (mList_no hz hin2) ▸ HR.out)
          clear cz hz hrow hx3 hz' e1 e2 hll hin' hin2
          go_wp2
          go_roundw
          case rel => exact ⟨k + 1, by omega, by go_num, HU⟩
          case measure => simp [intOf]; omega
      · obtain rfl : k = 6 := by omega
        have hc := rwait_ok HR.out t _ b0 ⟨0, 0, 0⟩ hx3 rfl (by decide) (by decide) y HY.out y0 sb (mList th 6) rfl hlog (fun h => absurd h (by have := first_step y; omega))
        rw [List.set_set] at hc
        rw [if_neg (by have := first_step y; omega)] at hc
        have HC := hid hc
        clear hc hx3 hlt hk
        go_wp2_with fail
        refine HC.out.mono ?_
        rintro e w5 ⟨rfl, hq⟩
        have HQ := hid hq
        clear hq HC
        go_wp2
        go_ret
        exact ⟨rfl, b0, sb, HQ.out⟩
end
end Go.Proofs.Ytckopbjejjeknaa
