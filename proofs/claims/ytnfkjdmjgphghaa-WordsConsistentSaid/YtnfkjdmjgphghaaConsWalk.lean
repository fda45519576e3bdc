/- WordsConsistent: the walk. -/
import Derived.Test.YtnfkjdmjgphghaaRun
import Derived.Test.YtnfkjdmjgphghaaConsPlain
import Derived.Test.YtnfkjdmjgphghaaLogRd
import Derived.Test.YtnfkjdmjgphghaaKit
import Derived.Test.YtnfkjdmjgphghaaReplay
namespace Go.Proofs.Ytnfkjdmjgphghaa
open Go.RowKit Go.Lf

set_option maxRecDepth 100000 in
set_option maxHeartbeats 4000000 in
theorem cons_ok (va vb : Value) (ws : List Int) (l : List Do) (w : World) (h1 : Rd w 1 va ws.length (u64s ws)) (h2 : Rd w 5 vb l.length (doCells l)) (h0 : 0 < ws.length) (hm : ws.length ≤ 300) (hl : l.length ≤ 200)
    (hu : ∀ v ∈ ws, U64 v) (hd : ∀ x ∈ l, x.wf) : Calls Try.prog 8 #[va, vb] w fun e w' => e = .returned (.bool true) ∧ Keep Nil w w' := by
  obtain ⟨ab, off, c, rfl, hcw⟩ := Rd.cell h1 h0
  obtain ⟨a2, c2, rfl, -, -⟩ := id h2
  have d1 : decide ((ws.length : Int) < 1) = false := decide_eq_false (by omega)
  have d2 : decide (300 < (ws.length : Int)) = false := decide_eq_false (by omega)
  have d3 : decide (200 < (l.length : Int)) = false := decide_eq_false (by omega)
  have H1 := hid h1
  have HCW := hid hcw
  have hrun := hid (run_ok _ _ ws l w h1 h2 h0 hm hl hu hd)
  have hlog := runM_log ws l
  have hlen := runM_length ws l
  have haf := run_after ws l h0
  obtain ⟨cur, hcur⟩ : ∃ cur, cur = (runM ws l).1 := ⟨_, rfl⟩
  obtain ⟨log, hlg⟩ : ∃ log, log = (runM ws l).2 := ⟨_, rfl⟩
  have hrt : ∀ e w', RunTo w ws l e w' → ∃ b F, e = .returned (.pointer (some ⟨b, 0, none⟩)) ∧ MemAt w' b F cur log ∧ Own w F w' := by
    intro e w' h
    obtain ⟨b, F, he, h, ho⟩ := h
    exact ⟨b, F, he, by rw [hcur, hlg]; exact h, ho⟩
  have HRT := hid hrt
  rw [← hcur] at hlen haf
  rw [← hlg] at hlog haf
  have HLEN := hid hlen
  have HAF := hid haf
  have hcl : cur.length ≤ 300 := by omega
  have d4 : decide (l.length < log.length) = false := decide_eq_false (by omega)
  clear h1 h2 hu hd hcur hlg hcw hrt hlen haf
  go_enter Try.func8, Try.ntmps8
  go_wp2_with fail
  refine hrun.out.mono ?_
  intro e w1 hr
  obtain ⟨b, F, rfl, hmem, hown⟩ := HRT.out _ _ hr
  have HM := hid hmem
  have HO := hid hown
  clear hr hmem hown
  go_wp2_with fail
  refine (log_all HM.out (by omega)).mono ?_
  rintro e w2 ⟨la, lc, rfl, rdl, k2, -⟩
  have HM2 := hid (HM.out.keep k2 (fun _ _ h => h))
  have RL := hid rdl
  have K2 := hid k2
  clear rdl k2
  go_wp2_with fail
  refine (words_ok HM2.out (by omega)).mono ?_
  rintro e w3 ⟨g, rfl, hg, hgz, k3⟩
  have hgv : ∀ j u, (u64s cur)[j]? = some u → w3.cell? ⟨g, j, none⟩ = some u := fun j u hu => by rw [cell_of hg]; simpa using hu
  have HG := hid hgv
  have RL3 := hid (rd_keep RL.out k3 (fun _ _ h => h))
  have kk3 := HO.out.quiet (K2.out.trans k3 (fun _ _ h => h))
  have K3 := hid kk3.1
  have e1 : ((cur.length : Int) != ws.length) = false := by have := HLEN.out; simp; omega
  clear hg hgz k3 hgv kk3
  go_wp2
  go_loopw [8] (fun i wr => ∃ (k : Nat), k ≤ log.length ∧ i = .int .i64 k ∧ Keep Nil w3 wr) (fun i _ => log.length - (intOf i).toNat)
  case atStart => exact ⟨0, Nat.zero_le _, rfl, Keep.refl _ _⟩
  case round =>
    obtain ⟨i, hi, rfl, hk4⟩ := hrel
    have K4 := hid hk4
    clear hk4
    obtain ⟨wo, rfl⟩ : ∃ wo : World, wo = wr := ⟨_, rfl⟩
    by_cases hlt : i < log.length
    · obtain ⟨x, hx⟩ : ∃ x, log[i]? = some x := ⟨_, List.getElem?_eq_getElem hlt⟩
      obtain ⟨xa0, xa1, xo⟩ := after_old HAF.out hx
      obtain ⟨lb, lo, lcc, hve, hlc⟩ := Rd.cell RL3.out (by omega)
      simp only [Value.slice.injEq] at hve
      obtain ⟨rfl, -, rfl⟩ := hve
      have HLC := hid hlc
      have q : ∀ j u, x.cells[j]? = some u → wo.cell? ⟨lb, lo + i * 6 + j, none⟩ = some u := fun j u hu => by rw [Nat.add_assoc]; exact K4.out.cell (hlc (i * 6 + j) _ (logCells_at hx hu)) (fun h => h)
      have q0 : wo.cell? ⟨lb, lo + i * 6, none⟩ = some (.int .i64 x.t) := q 0 _ rfl
      have q1 := q 1 _ rfl
      have q2 := q 2 _ rfl
      have q3 := q 3 _ rfl
      have q4 := q 4 _ rfl
      have q5 := q 5 _ rfl
      have hgv := gv_at (ws := ws) xa0 xa1
      have hw : wo.cell? ⟨ab, off + x.a.toNat, none⟩ = some (.int .u64 (gv ws x.a)) := (K3.out.trans K4.out (fun _ _ h => h)).cell (HCW.out _ _ (u64s_at hgv)) (fun h => h)
      have hbw : ab < wo.heap.size := World.block_lt_of_cell? wo _ hw
      have nA : ¬ x.a < 0 := by omega
      have XO := hid xo
      have HX := hid hx
      clear hx xo hlc q hgv
      go_wp2
      obtain ⟨W, hW⟩ : ∃ W, W = wo.alloc (.cells #[.int .i64 x.t, .int .i64 x.a, .int .u8 x.k, .int .u64 x.o, .int .u64 x.n, .bool x.s] 56) := ⟨_, rfl⟩
      rw [← hW]
      have kW : Keep Nil wo W := by rw [hW]; exact (Keep.refl _ _).alloc _
      have hbx : W.heap[wo.heap.size]? = some (.cells #[.int .i64 x.t, .int .i64 x.a, .int .u8 x.k, .int .u64 x.o, .int .u64 x.n, .bool x.s] 56 (0, 0)) := by rw [hW]; exact heap_alloc_new wo _
      have KW := hid kW
      have HBX := hid hbx
      clear hW kW hbx q0 q1 q2 q3 q4 q5 hw
      go_loopw [10, 11] (fun s kk wi => ∃ (m : Nat), m ≤ i ∧ kk = .int .i64 m ∧ s = .int .u64 (lastTo (gv ws x.a) (log.take m) x.a) ∧ Keep Nil W wi) (fun _ kk _ => i - (intOf kk).toNat)
      case atStart => exact ⟨0, Nat.zero_le _, rfl, rfl, Keep.refl _ _⟩
      case round =>
        obtain ⟨m, hmi, rfl, rfl, hk5⟩ := hrel
        have e1' : wr.cell? ⟨wo.heap.size, 1, none⟩ = some (.int .i64 x.a) := hk5.cell (by rw [cell_of HBX.out]; rfl) (fun h => h)
        have e3' : wr.cell? ⟨wo.heap.size, 3, none⟩ = some (.int .u64 x.o) := hk5.cell (by rw [cell_of HBX.out]; rfl) (fun h => h)
        have K5 := hid hk5
        clear hk5
        by_cases hmlt : m < i
        · obtain ⟨y, hy⟩ : ∃ y, log[m]? = some y := ⟨_, List.getElem?_eq_getElem (by omega)⟩
          have kall := (K4.out.trans KW.out (fun _ _ h => h)).trans K5.out (fun _ _ h => h)
          have y1 : wr.cell? ⟨lb, lo + m * 6 + 1, none⟩ = some (.int .i64 y.a) := by rw [Nat.add_assoc]; exact kall.cell (HLC.out (m * 6 + 1) _ (logCells_at hy rfl)) (fun h => h)
          have y4 : wr.cell? ⟨lb, lo + m * 6 + 4, none⟩ = some (.int .u64 y.n) := by rw [Nat.add_assoc]; exact kall.cell (HLC.out (m * 6 + 4) _ (logCells_at hy rfl)) (fun h => h)
          have b0 : (0 : Int) ≤ (m : Int) := by omega
          have b1 : (m : Int) < (log.length : Int) := by omega
          have nxt := lastTo_take (w0 := gv ws x.a) (a := x.a) hy
          by_cases hya : y.a = x.a
          · have hyb : (y.a == x.a) = true := beq_iff_eq.2 hya
            rw [if_pos hya] at nxt
            have NX := hid nxt
            clear hya nxt kall hy
            go_wp2
            go_quiet (fail)
            go_wp2
            go_roundw
            case rel => exact ⟨m + 1, by omega, by go_num, by rw [NX.out], K5.out.drewN _⟩
            case measure => simp [intOf]; omega
          · have hyb : (y.a == x.a) = false := beq_eq_false_iff_ne.2 hya
            rw [if_neg hya] at nxt
            have NX := hid nxt
            clear hya nxt kall hy
            go_wp2
            go_quiet (fail)
            go_wp2
            go_roundw
            case rel => exact ⟨m + 1, by omega, by go_num, by rw [NX.out], K5.out.drewN _⟩
            case measure => simp [intOf]; omega
        · obtain rfl : m = i := by omega
          have hxb : (x.o != lastTo (gv ws x.a) (log.take m) x.a) = false := by rw [← XO.out]; simp
          go_wp2
          go_roundw
          case rel => exact ⟨m + 1, by omega, by go_num, (K4.out.trans KW.out (fun _ _ h => h)).trans K5.out (fun _ _ h => h)⟩
          case measure => simp [intOf]; omega
    · go_wp2
      have kw := K3.out.trans K4.out (fun _ _ h => h)
      have KWO := hid kw
      clear kw
      go_loop [12] (fun ii => ∃ (k : Nat), k ≤ ws.length ∧ ii = .int .i64 k) (fun ii => ws.length - (intOf ii).toNat)
      case atStart => exact ⟨0, Nat.zero_le _, rfl⟩
      case round =>
        obtain ⟨j, hj, rfl⟩ := hrel
        by_cases hjlt : j < ws.length
        · have hgv := gv_at (ws := ws) (a := (j : Int)) (by omega) (by omega)
          rw [Int.toNat_natCast] at hgv
          have hgc := gv_at (ws := cur) (a := (j : Int)) (by omega) (by have := HLEN.out; omega)
          rw [Int.toNat_natCast] at hgc
          have hag := after_gv HAF.out (a := (j : Int)) (by omega) (by omega)
          have hw : wo.cell? ⟨ab, off + j, none⟩ = some (.int .u64 (gv ws j)) := KWO.out.cell (HCW.out _ _ (u64s_at hgv)) (fun h => h)
          have hn : wo.cell? ⟨g, j, none⟩ = some (.int .u64 (gv cur j)) := K4.out.cell (HG.out _ _ (u64s_at hgc)) (fun h => h)
          have hjc : j < cur.length := by have := HLEN.out; omega
          have HAG := hid hag
          clear hgv hgc hag
          go_wp2
          go_loop [13, 14] (fun s kk => ∃ (m : Nat), m ≤ log.length ∧ kk = .int .i64 m ∧ s = .int .u64 (lastTo (gv ws j) (log.take m) j)) (fun _ kk => log.length - (intOf kk).toNat)
          case atStart => exact ⟨0, Nat.zero_le _, rfl, rfl⟩
          case round =>
            obtain ⟨m, hmi, rfl, rfl⟩ := hrel
            by_cases hmlt : m < log.length
            · obtain ⟨y, hy⟩ : ∃ y, log[m]? = some y := ⟨_, List.getElem?_eq_getElem hmlt⟩
              obtain ⟨lb, lo, lcc, hve, hlc⟩ := Rd.cell RL3.out (by omega)
              simp only [Value.slice.injEq] at hve
              obtain ⟨rfl, -, rfl⟩ := hve
              have y1 : wo.cell? ⟨lb, lo + m * 6 + 1, none⟩ = some (.int .i64 y.a) := by rw [Nat.add_assoc]; exact K4.out.cell (hlc (m * 6 + 1) _ (logCells_at hy rfl)) (fun h => h)
              have y4 : wo.cell? ⟨lb, lo + m * 6 + 4, none⟩ = some (.int .u64 y.n) := by rw [Nat.add_assoc]; exact K4.out.cell (hlc (m * 6 + 4) _ (logCells_at hy rfl)) (fun h => h)
              have nxt := lastTo_take (w0 := gv ws j) (a := (j : Int)) hy
              by_cases hya : y.a = j
              · have hyb : (y.a == (j : Int)) = true := beq_iff_eq.2 hya
                rw [if_pos hya] at nxt
                have NX := hid nxt
                clear hya nxt hy hlc
                go_wp2
                go_round
                case rel => exact ⟨m + 1, by omega, by go_num, by rw [NX.out]⟩
                case measure => simp [intOf]; omega
              · have hyb : (y.a == (j : Int)) = false := beq_eq_false_iff_ne.2 hya
                rw [if_neg hya] at nxt
                have NX := hid nxt
                clear hya nxt hy hlc
                go_wp2
                go_round
                case rel => exact ⟨m + 1, by omega, by go_num, by rw [NX.out]⟩
                case measure => simp [intOf]; omega
            · obtain rfl : m = log.length := by omega
              rw [List.take_of_length_le (Nat.le_refl _)]
              have hxb : (gv cur j != lastTo (gv ws j) log j) = false := by rw [HAG.out]; simp
              go_wp2
              go_round
              case rel => exact ⟨j + 1, by omega, by go_num⟩
              case measure => simp [intOf]; omega
        · go_wp2_with (at_builtin; refine wpList_app _ rfl (.tmp 134) (.tmp 135) 22 rfl 39 _ 1 8 Try.underlying22 infoU64 rfl (by decide) (.slice (some ⟨wo.heap.size, 0, none⟩) 0 0) 0 [] rfl ?own (.slice (some ⟨ab, off, none⟩) ws.length c) ws.length (u64s ws) rfl ?rd ?one ?byt ?len ?_)
          case own => exact empty_row wo _ _
          case rd => exact rd_keep H1.out (KWO.out.alloc _) (fun _ _ h => h)
          case one => exact u64s_one _
          case byt => omega
          case len => unfold maxLen; omega
          intro oa oc w5 ho hg hs
          have k5 : Keep Nil wo w5 := Keep.grown (Keep.alloc (Keep.refl _ _) _) hg (fun j hj => .inr (by simp [Value.ownBlock] at hj; omega))
          have K5 := hid k5
          have R5 := hid (row_rd ho)
          clear ho hg hs k5
          go_wp2_with fail
          refine (replay_ok _ _ ws log _ R5.out (rd_keep RL3.out (K4.out.trans K5.out (fun _ _ h => h)) (fun _ _ h => h)) h0 (by omega) (by omega)).mono ?_
          rintro e w6 ⟨k6, hA⟩
          rcases hA with ⟨cur', v, haf', rfl, hv⟩ | ⟨k, hb, rfl⟩
          · obtain rfl : cur = cur' := by have := HAF.out; rw [haf'] at this; exact (Option.some.inj this).symm
            have HV := hid hv
            have K6 := hid k6
            clear haf' hv k6
            go_wp2_with fail
            refine (eqU_yes _ _ cur _ HV.out (rd_keep ?rdg (K4.out.trans (K5.out.trans K6.out (fun _ _ h => h)) (fun _ _ h => h)) (fun _ _ h => h)) (by omega)).mono ?_
            case rdg => exact ⟨_, cur.length, rfl, by simp [u64s], .inr <| .inl ⟨g, 0, rfl, fun j u hu => by rw [Nat.zero_add]; exact HG.out j u hu⟩⟩
            rintro e w7 ⟨rfl, k7⟩
            go_wp2
            go_ret
            exact ⟨rfl, ((KWO.out.trans K5.out (fun _ _ h => h)).trans K6.out (fun _ _ h => h)).trans k7 (fun _ _ h => h)⟩
          · exact absurd hb.none (by rw [HAF.out]; simp)

set_option maxHeartbeats 400000 in
theorem cons_out1 (a a2 : Option Addr) (n c m c2 : Nat) (w : World) (h : n ≤ maxLen) (hn : n < 1 ∨ 300 < n) :
    Calls Try.prog 8 #[.slice a n c, .slice a2 m c2] w fun e w' => e = .returned (.bool true) ∧ Keep Nil w w' := by
  unfold maxLen at h
  rcases hn with hn | hn
  · have d1 : decide ((n : Int) < 1) = true := decide_eq_true (by omega)
    clear hn
    go_enter Try.func8, Try.ntmps8
    go_wp2
    go_ret
    exact ⟨rfl, Keep.refl _ _⟩
  · have d1 : decide ((n : Int) < 1) = false := decide_eq_false (by omega)
    have d2 : decide (300 < (n : Int)) = true := decide_eq_true (by omega)
    clear hn
    go_enter Try.func8, Try.ntmps8
    go_wp2
    go_ret
    exact ⟨rfl, Keep.refl _ _⟩
set_option maxHeartbeats 400000 in
theorem cons_out2 (a a2 : Option Addr) (n c m c2 : Nat) (w : World) (hn : 1 ≤ n ∧ n ≤ 300) (h : m ≤ maxLen) (hm : 200 < m) :
    Calls Try.prog 8 #[.slice a n c, .slice a2 m c2] w fun e w' => e = .returned (.bool true) ∧ Keep Nil w w' := by
  unfold maxLen at h
  have d1 : decide ((n : Int) < 1) = false := decide_eq_false (by omega)
  have d2 : decide (300 < (n : Int)) = false := decide_eq_false (by omega)
  have d3 : decide (200 < (m : Int)) = true := decide_eq_true (by omega)
  clear hn hm
  go_enter Try.func8, Try.ntmps8
  go_wp2
  go_ret
  exact ⟨rfl, Keep.refl _ _⟩

theorem walk_cons (w : World) (va : Value) (ws : List Int) (h1 : Rd w 1 va ws.length (u64s ws)) (b1 : ∀ n ∈ ws, (Lit.int .u64 n).wf = true) (m1 : ws.length ≤ maxLen)
    (vb : Value) (l : List Do) (h2 : Rd w 5 vb l.length (doCells l)) (b2 : ∀ x ∈ l, Do.wf x) (m2 : l.length ≤ maxLen) :
    Calls Try.prog 8 #[va, vb] w fun e w' => e = .returned (.bool true) ∧ Keep Nil w w' := by
  by_cases hn : 1 ≤ ws.length ∧ ws.length ≤ 300
  · by_cases hm : l.length ≤ 200
    · exact cons_ok va vb ws l w h1 h2 (by omega) hn.2 hm (fun v hv => U64.of_wf (b1 v hv)) b2
    · obtain ⟨a, c, rfl, -, -⟩ := h1
      obtain ⟨a2, c2, rfl, -, -⟩ := h2
      exact cons_out2 _ _ _ _ _ _ _ hn m2 (by omega)
  · obtain ⟨a, c, rfl, -, -⟩ := h1
    obtain ⟨a2, c2, rfl, -, -⟩ := h2
    exact cons_out1 _ _ _ _ _ _ _ m1 (by omega)
end Go.Proofs.Ytnfkjdmjgphghaa
