/- each: a thread begins to wait: contract. -/
import Derived.Test.YtihgfklajhhikaaEachAct2
namespace Go.Lf
theorem shr_mod (s v : Nat) (b : Bool) (hb : s.testBit v = b) : (((s : Int) / 2 ^ v).tmod 2 == 1) = b := by
  rw [show (s : Int) / 2 ^ v = ((s / 2 ^ v : Nat) : Int) by simp, Int.tmod_eq_emod_of_nonneg (Int.natCast_nonneg _), ← hb, shift_bit]
  have : s / 2 ^ v % 2 = 0 ∨ s / 2 ^ v % 2 = 1 := by omega
  rw [Bool.eq_iff_iff, beq_iff_eq, decide_eq_true_iff]
  omega
end Go.Lf
namespace Go.Proofs.Ytihgfklajhhikaa
open Go.RowKit Go.Lf
section
variable {w wr : World} {rb g sb cb mb : Nat} {F : Nat → Prop} {sl : List (Int × Bool)} {ws : List Int} {th : List ET} {log : List Acc}

/-- A wait has begun, and has made its first step. -/
def EBeginTo (w : World) (rb g sb cb mb : Nat) (sl : List (Int × Bool)) (ws : List Int) (th : List ET) (t : Nat) (x : ET) (s y : Int) (n : Nat) (w' : World) : Prop :=
  ∃ b qb, ERunTo w rb g sb cb mb sl ws (th.set t { x with wt := some (b, EWS.step 6 s y ⟨0, 0, 0⟩), set := s, mu := some (qb, eList th s 6) }) n w'
theorem make_six (w : World) : (Instr.makeSlice 39 (.int .i64 6) (.int .i64 6)).run Try.prog w = .ok (.slice (some ⟨w.heap.size, 0, none⟩) 6 6) (w.alloc (.cells #[.int .i64 0, .int .i64 0, .int .i64 0, .int .i64 0, .int .i64 0, .int .i64 0] 3)) := by kernel_rfl
theorem efirst_step (s y : Int) : (EWS.step 6 s y ⟨0, 0, 0⟩).st < 3 := by
  unfold EWS.step EWS.next
  simp only [if_pos]
  split
  · simp
  · simp

set_option maxRecDepth 100000 in
set_option maxHeartbeats 8000000 in
theorem eact_begin (h : ERunAt w wr rb g sb cb mb F sl ws th log) (t : Nat) (x : ET) (hx : th[t]? = some x) (hen : x.en = none) (hwt : x.wt = none) (hin : x.inn = false) (what v : Int) (s : Nat) (h0 : 0 ≤ what) (hw : ¬ what % 4 < 2) (hs : s ≠ 0) (hs1 : s < 18446744073709551616) (y : Int) (hy : ws[0]? = some y) (y0 : 0 ≤ y) (hlog : log.length < 100000000000)
    (hv : ∀ (j : Nat) (z : ET), th[j]? = some z → 0 ≤ z.val ∧ z.val < 64) :
    Calls Try.prog 30 #[.pointer (some ⟨rb, 0, none⟩), .int .i64 t, .int .u8 what, .int .i64 v, .int .u64 s] wr fun e w' => e = .returned (.bool true) ∧ EBeginTo w rb g sb cb mb sl ws th t x s y (log.length + 1) w' := by
  have t6 : t < 6 := by have := lt_of_at hx; have := h.lth; omega
  obtain ⟨c0, c1, c2, c3, c4, c5, c6⟩ := h.cells hx
  rw [hen] at c0
  rw [hwt] at c1
  rw [hin] at c2
  simp only [ptrO] at c0
  simp only [ptrO] at c1
  have cg := h.top.2
  have qm := make_six
  have d1 : decide (what % 4 < 2) = false := decide_eq_false hw
  have ST := hid (@ewait_ok wr g (t : Int) (s : Int) (by omega) (by omega) (by omega))
  have H := hid h
  have HX := hid hx
  have HY := hid hy
  have HV := hid hv
  have HEN := hid hen
  have HIN := hid hin
  have HS1 := hid hs1
  have HM := hid (fun (v : World) (h : ERunAt w v rb g sb cb mb F sl ws th log) => (h.cells hx).2.2.2.2.2)
  clear h hx hen hwt hin hw hy hs c4 c5 c6 c3 hv hs1
  go_enter Try.func30, Try.ntmps30
  go_wp2_with fail
  refine ST.out.mono ?_
  rintro e w2 ⟨rfl, hw2, hk2, hz2⟩
  have r2 := H.out.keep hk2
  have hrb := lt_of_block r2.run
  have z1 := r2.free (2 + t * 7 + 1)
  have z5 := r2.free (2 + t * 7 + 5)
  have z6 := r2.free (2 + t * 7 + 6)
  obtain ⟨m5, m6⟩ := HM.out _ r2
  have q1 := hk2.cell c1 (fun h => h)
  have R2 := hid r2
  have W2 := hid hw2
  have K2 := hid hk2
  have Z2 := hid hz2
  clear ST hw2 hk2 hz2 r2 c0 c1 c2 cg HM
  go_wp2
  have hle : w.heap.size ≤ wr.heap.size := H.out.own.1.size
  have hz : w2.heap.size = wr.heap.size + 1 := Z2.out
  have nF1 : ¬ F wr.heap.size := fun hF => absurd (H.out.sys.mem.lt _ hF) (Nat.lt_irrefl _)
  have nF2 : ¬ F w2.heap.size := fun hF => by have := H.out.sys.mem.lt _ hF; omega
  have hk3 : Keep Nil w2 (w2.alloc (.cells #[.int .i64 0, .int .i64 0, .int .i64 0, .int .i64 0, .int .i64 0, .int .i64 0] 3)) := (Keep.refl Nil w2).alloc _
  have r4 : ERunAt w ((((w2.alloc (.cells #[.int .i64 0, .int .i64 0, .int .i64 0, .int .i64 0, .int .i64 0, .int .i64 0] 3)).setCell ⟨rb, 2 + t * 7 + 1, none⟩ (.pointer (some ⟨wr.heap.size, 0, none⟩))).setCell ⟨rb, 2 + t * 7 + 5, none⟩ (.int .u64 s)).setCell ⟨rb, 2 + t * 7 + 6, none⟩ (.slice (some ⟨w2.heap.size, 0, none⟩) 6 6)) rb g sb cb mb F sl ws (th.set t { x with wt := some (wr.heap.size, ⟨0, 0, 0⟩), set := s, mu := some (w2.heap.size, eList th s 0) }) log := by
    have r3 := R2.out.keep hk3
    have p1 := erun_set r3.run HX.out (j := 1) (by decide) (.pointer (some ⟨wr.heap.size, 0, none⟩)) (x' := { x with wt := some (wr.heap.size, ⟨0, 0, 0⟩) }) rfl
    have p2 := erun_set p1 (put_self HX.out _) (j := 5) (by decide) (.int .u64 s) (x' := { x with wt := some (wr.heap.size, ⟨0, 0, 0⟩), set := s }) rfl
    rw [List.set_set] at p2
    have p3 := erun_set p2 (put_self HX.out _) (j := 6) (by decide) (.slice (some ⟨w2.heap.size, 0, none⟩) 6 6) (x' := { x with wt := some (wr.heap.size, ⟨0, 0, 0⟩), set := s, mu := some (w2.heap.size, eList th s 0) }) rfl
    rw [List.set_set] at p3
    refine r3.put (Keep.setCell (Keep.setCell (Keep.setCell (Keep.refl (fun k => k = rb) _) (.inl rfl) _) (.inl rfl) _) (.inl rfl) _) p3 (fun b u hb => ?_) (fun b k hb => ?_) (fun b l hb => ?_)
    · simp only [Option.some.injEq, Prod.mk.injEq] at hb
      obtain ⟨rfl, rfl⟩ := hb
      refine ⟨hk3.at W2.out (fun h => h), nF1, hle, fun i y c u hi hy hc e => ?_⟩
      have := lt_of_block (H.out.waits i y c u hy hc).1
      omega
    · simp only at hb; rw [HEN.out] at hb; cases hb
    · simp only [Option.some.injEq, Prod.mk.injEq] at hb
      obtain ⟨rfl, rfl⟩ := hb
      exact ⟨by rw [eList_zero]; exact heap_alloc_new w2 _, nF2, by omega, eList_len th s 0⟩
  rw [World.setCell_alloc_past _ _ _ _ hrb, World.setCell_alloc_past _ _ _ _ (by simpa using hrb), World.setCell_alloc_past _ _ _ _ (by simpa using hrb)] at r4
  have R4 := hid r4
  have NE := hid (show ∀ (i : Nat) (y : ET) (c : Nat) (l' : List Int), i ≠ t → th[i]? = some y → y.mu = some (c, l') → c ≠ w2.heap.size from fun i y c l' _ h1 h2 e => by
    have := lt_of_block (H.out.musts i y c l' h1 h2).1; omega)
  have NC := hid (show cb ≠ w2.heap.size from fun e => by have := lt_of_block H.out.sys.eng.cap; omega)
  have HN := hid H.out.lws
  have HT := hid H.out.lth
  clear r4 hk3 nF1 nF2 hle hz R2 W2 K2 Z2 H
  go_region_law (fail)
  all_goals
    go_wp2
    generalize wr.heap.size = b0 at *
    generalize w2.heap.size = qb at *
    clear z1 z5 z6 m5 m6 q1 hrb
    go_loopw [18] (fun i wq => ∃ k : Nat, k ≤ 6 ∧ i = .int .i64 k ∧ Hid (ERunAt w wq rb g sb cb mb F sl ws (th.set t { x with wt := some (b0, ⟨0, 0, 0⟩), set := s, mu := some (qb, eList th s k) }) log)) (fun i _ => 6 - (intOf i).toNat)
    case atStart => exact ⟨0, by omega, rfl, hid (R4.out.keep (Keep.refl Nil _).drew)⟩
    case round =>
      obtain ⟨k, hk, rfl, HR⟩ := hrel
      clear R4
      have hx3 : (th.set t { x with wt := some (b0, ⟨0, 0, 0⟩), set := s, mu := some (qb, eList th s k) })[t]? = some { x with wt := some (b0, ⟨0, 0, 0⟩), set := s, mu := some (qb, eList th s k) } := put_self HX.out _
      by_cases hlt : k < 6
      · obtain ⟨z, hz⟩ : ∃ z, th[k]? = some z := ⟨_, List.getElem?_eq_getElem (by have := HT.out; omega)⟩
        obtain ⟨zv0, zv1⟩ := HV.out k z hz
        obtain ⟨vn, hvn⟩ := Int.eq_ofNat_of_zero_le zv0
        obtain ⟨hrow, -, -, hll⟩ := HR.out.musts t _ qb (eList th s k) hx3 rfl
        have c6 := (HR.out.cells hx3).2.2.2.2.2.2
        simp only [mustV] at c6
        obtain ⟨z', hz', e1, e2, e3⟩ : ∃ z', (th.set t { x with wt := some (b0, ⟨0, 0, 0⟩), set := s, mu := some (qb, eList th s k) })[k]? = some z' ∧ z'.inn = z.inn ∧ z'.sec = z.sec ∧ z'.val = z.val := by
          by_cases e : t = k
          · subst e
            rw [hx3]
            obtain rfl := Option.some.inj (HX.out.symm.trans hz)
            exact ⟨_, rfl, rfl, rfl, rfl⟩
          · exact ⟨z, by rw [List.getElem?_set, if_neg e]; exact hz, rfl, rfl, rfl⟩
        have cz := HR.out.cells hz'
        have ci := cz.2.2.1
        have cv := cz.2.2.2.1
        have cs := cz.2.2.2.2.1
        rw [e1] at ci
        rw [e3, hvn] at cv
        rw [e2] at cs
        have hwv : IntKind.u64.wrap (vn : Int) = vn := by rw [IntKind.wrap_u64]; omega
        have hconc : conc (s : Int) z.val = s.testBit vn := by rw [hvn]; exact conc_nat s vn (by omega)
        have HZ := hid hz
        have hv64 : vn < 64 := by omega
        by_cases hin' : z.inn = true
        · rw [hin'] at ci
          by_cases hb : s.testBit vn = true
          · have dd := shr_mod s vn true hb
            have hyes : (z.inn && conc (s : Int) z.val) = true := by rw [hin', hconc, hb]; rfl
            have hu := (HR.out.keep (Keep.refl Nil _).drew).setMust hx3 rfl (fun i y c l' h1 h2 h3 => NE.out i y c l' h1 (by rw [List.getElem?_set, if_neg (fun e => h1 e.symm)] at h2; exact h2) h3) NC.out k z.sec
            rw [List.set_set] at hu
            simp only at hu
            rw [← eList_yes hlt hz hyes] at hu
            have HU := hid hu
            have zr := free_of hrow k
            have co := cell_of hrow k
            rw [show ((eList th s k).map (Value.int .i64)).toArray[k]? = some (.int .i64 0) by simp [eList_at th s k k hlt]] at co
            clear cz hz hrow hx3 hz' e1 e2 e3 hll hin' hu hyes hconc hb hvn zv0 zv1
            go_wp2
            go_still_tail 13, (by kernel_rfl)
            change wpList _ _ _ _ _ wr.drew
            go_wp2
            go_roundw
            case rel => exact ⟨k + 1, by omega, by go_num, HU⟩
            case measure => simp [intOf]; omega
          · have hb' : s.testBit vn = false := by simpa using hb
            have dd := shr_mod s vn false hb'
            have hno : (z.inn && conc (s : Int) z.val) = false := by rw [hconc, hb', Bool.and_false]
            have HU := hid (show ERunAt w _ rb g sb cb mb F sl ws (th.set t { x with wt := some (b0, ⟨0, 0, 0⟩), set := s, mu := some (qb, eList th s (k + 1)) }) log from (eList_no hz hno) ▸ HR.out)
            clear cz hz hrow hx3 hz' e1 e2 e3 hll hin' hno hconc hb hb' hvn zv0 zv1
            go_wp2
            go_roundw
            case rel => exact ⟨k + 1, by omega, by go_num, HU⟩
            case measure => simp [intOf]; omega
        · have hin2 : z.inn = false := by simpa using hin'
          rw [hin2] at ci
          have hno : (z.inn && conc (s : Int) z.val) = false := by rw [hin2, Bool.false_and]
          have HU := hid (show ERunAt w _ rb g sb cb mb F sl ws (th.set t { x with wt := some (b0, ⟨0, 0, 0⟩), set := s, mu := some (qb, eList th s (k + 1)) }) log from (eList_no hz hno) ▸ HR.out)
          clear cz hz hrow hx3 hz' e1 e2 e3 hll hin' hin2 hno hconc hvn zv0 zv1
          go_wp2
          go_roundw
          case rel => exact ⟨k + 1, by omega, by go_num, HU⟩
          case measure => simp [intOf]; omega
      · obtain rfl : k = 6 := by omega
        have hc := erwait_ok HR.out t _ b0 ⟨0, 0, 0⟩ hx3 rfl (by simp) (by simp) y (by exact HY.out) y0 (fun h => by simp at h) qb (eList th s 6) rfl hlog (by simp only; omega) (by have := HS1.out; simp only; omega) (fun h => absurd h (by have := efirst_step s y; simp only; omega))
        rw [List.set_set] at hc
        simp only at hc
        rw [if_neg (by have := efirst_step s y; omega)] at hc
        have HC := hid hc
        clear hc hx3 hlt hk
        go_wp2_with fail
        refine HC.out.mono ?_
        rintro e w5 ⟨rfl, hq⟩
        have HQ := hid hq
        clear hq HC
        go_wp2
        go_ret
        exact ⟨rfl, b0, qb, HQ.out⟩
end
end Go.Proofs.Ytihgfklajhhikaa
