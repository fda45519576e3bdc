/- EachProgress: the walk. -/
import Derived.Test.YtihgfklajhhikaaEachProg
namespace Go.Proofs.Ytihgfklajhhikaa
open Go.RowKit Go.Lf
section
variable {w wr : World} {rb g sb cb mb : Nat}
set_option maxRecDepth 100000 in
set_option maxHeartbeats 16000000 in
theorem prog_ok (n : Int) (n0 : 0 ≤ n) (a : Option Addr) (c : Nat) (l : List Go.Lf.Act) (hrd : Rd w 4 (.slice a l.length c) l.length (actCells l)) (hwf : ∀ x ∈ l, x.wf) (hl : l.length ≤ 300) (s : Nat) (hs : s ≠ 0) (hs1 : s < 18446744073709551616) (v : Int) (v0 : 0 ≤ v) :
    Calls Try.prog 5 #[.int .u8 n, .slice a l.length c, .int .u64 s, .int .u8 v] w fun e w' => e = .returned (.bool true) ∧ Keep Nil w w' := by
  have HB := hid (fun m => @ebegin_any w w (Keep.refl _ _) m)
  have HD := hid hrd
  have HW := hid hwf
  have HS := hid hs
  have d0 : decide (300 < (l.length : Int)) = false := decide_eq_false (by omega)
  have d1 : ((s : Int) == 0) = false := beq_eq_false_iff_ne.2 (by omega)
  have S1 := hid hs1
  obtain ⟨ov, hov⟩ : ∃ ov : Nat, v % 64 = (ov : Int) := ⟨(v % 64).toNat, by omega⟩
  have ov64 : ov < 64 := by omega
  have hw8 : IntKind.i64.wrap (ov : Int) = ov := by rw [IntKind.wrap_i64]; omega
  have hw9 : IntKind.u64.wrap (ov : Int) = ov := by rw [IntKind.wrap_u64]; omega
  obtain ⟨qb, hqb⟩ : ∃ qb : Bool, (((s : Int) / 2 ^ ov).tmod 2 == 0) = qb := ⟨_, rfl⟩
  have HQB := hid (show qb = true → conc (s : Int) (ov : Int) = false from fun h => by
    rw [conc_nat s ov ov64]
    cases hb : s.testBit ov with
    | false => rfl
    | true =>
      have := shr_mod s ov true hb
      rw [beq_iff_eq] at this
      rw [h, beq_iff_eq] at hqb
      omega)
  clear hrd hwf hs hs1
  go_enter Try.func5, Try.ntmps5
  go_wp2_with fail
  refine (HB.out _).mono ?_
  rintro e w1 ⟨rb, g, sb, cb, mb, F, rfl, hr⟩
  have HG := hid (show EGood w rb g sb cb mb 0 w1 from ⟨_, _, _, F, [], hr, einv_new, Nat.le_refl _, esets_new⟩)
  clear hr HB
  go_wp2_with fail
  refine (play_ok a c l HD.out HW.out (by omega) HG.out).mono ?_
  rintro e w2 ⟨rfl, hg2⟩
  have Q2 := hid (show GoodQ w rb g sb cb mb (l.length + 0 * 6 + 0) 0 0 w2 from by
    obtain ⟨sl, ws, th, F2, log, h1, h2, h3, h4⟩ := hg2
    exact ⟨sl, ws, th, F2, log, h1, h2, h3, h4, fun j x _ => by rw [if_neg (by omega)]; exact .inl rfl⟩)
  clear hg2 HG
  go_wp2
  go_loopw [11] (fun i wr => ∃ r : Nat, r ≤ 400 ∧ i = .int .i64 r ∧ Hid (GoodQ w rb g sb cb mb (l.length + r * 6 + 0) r 0 wr)) (fun i _ => 400 - (intOf i).toNat)
  case atStart => exact ⟨0, by omega, rfl, Q2⟩
  case round =>
    obtain ⟨r, hr4, rfl, HR⟩ := hrel
    clear Q2
    by_cases hlt : r < 400
    · have dr : decide (r < 400) = true := decide_eq_true hlt
      have dr' : decide ((r : Int) < 400) = true := decide_eq_true (by omega)
      obtain ⟨wo, rfl⟩ : ∃ wo : World, wo = wr := ⟨_, rfl⟩
      go_wp2
      go_loopw [12] (fun i wq => ∃ t : Nat, t ≤ 6 ∧ i = .int .i64 t ∧ Hid (GoodQ w rb g sb cb mb (l.length + r * 6 + t) r t wq)) (fun i _ => 6 - (intOf i).toNat)
      case atStart => exact ⟨0, by omega, rfl, HR⟩
      case round =>
        obtain ⟨t, ht6, rfl, HT⟩ := hrel
        clear HR
        obtain ⟨sl, ws, th, F3, log3, h3, i3, l3, t3, q3⟩ := HT.out
        by_cases htl : t < 6
        · obtain ⟨x, hx⟩ : ∃ x, th[t]? = some x := ⟨_, List.getElem?_eq_getElem (by have := i3.lt; omega)⟩
          obtain ⟨c0, c1, c2, -⟩ := h3.cells hx
          have HA := hid (fun hb => round_act h3 i3 l3 t3 (by omega) htl q3 hx hb)
          cases hen : x.en with
          | some p =>
            obtain ⟨b, u⟩ := p
            rw [hen] at c0
            simp only [ptrO] at c0
            have HA2 := hid (HA.out (.inl (by rw [hen]; simp)))
            clear h3 i3 l3 t3 q3 hx hen c1 c2 HA
            go_wp2_with fail
            refine HA2.out.mono ?_
            rintro e w5 ⟨rfl, hg5⟩
            have G5 := hid hg5
            clear hg5 HA2 c0
            go_wp2
            go_roundw
            case rel => exact ⟨t + 1, by omega, by go_num, G5⟩
            case measure => simp [intOf]; omega
          | none =>
            rw [hen] at c0
            simp only [ptrO] at c0
            cases hwt : x.wt with
            | some p =>
              obtain ⟨b, u⟩ := p
              rw [hwt] at c1
              simp only [ptrO] at c1
              have HA2 := hid (HA.out (.inr (.inl (by rw [hwt]; simp))))
              clear h3 i3 l3 t3 q3 hx hen c2 HA hwt
              go_wp2_with fail
              refine HA2.out.mono ?_
              rintro e w5 ⟨rfl, hg5⟩
              have G5 := hid hg5
              clear hg5 HA2 c0 c1
              go_wp2
              go_roundw
              case rel => exact ⟨t + 1, by omega, by go_num, G5⟩
              case measure => simp [intOf]; omega
            | none =>
              rw [hwt] at c1
              simp only [ptrO] at c1
              cases hin : x.inn with
              | true =>
                rw [hin] at c2
                have HA2 := hid (HA.out (.inr (.inr hin)))
                clear h3 i3 l3 t3 q3 hx hen HA hwt hin
                go_wp2_with fail
                refine HA2.out.mono ?_
                rintro e w5 ⟨rfl, hg5⟩
                have G5 := hid hg5
                clear hg5 HA2 c0 c1 c2
                go_wp2
                go_roundw
                case rel => exact ⟨t + 1, by omega, by go_num, G5⟩
                case measure => simp [intOf]; omega
              | false =>
                rw [hin] at c2
                have G5 := hid (show GoodQ w rb g sb cb mb (l.length + r * 6 + (t + 1)) r (t + 1) wr from ⟨sl, ws, th, F3, log3, h3, i3.mono (by omega), by omega, t3, q3.skip (fun x' hx' => by
                  rw [hx] at hx'; obtain rfl := Option.some.inj hx'
                  exact .inr ⟨hen, .inr ⟨hin, fun b u h => by rw [hwt] at h; cases h⟩⟩)⟩)
                clear h3 i3 l3 t3 q3 hx hen HA hwt hin
                go_wp2
                go_roundw
                case rel => exact ⟨t + 1, by omega, by go_num, G5⟩
                case measure => simp [intOf]; omega
        · obtain rfl : t = 6 := by omega
          have G5 := hid (show GoodQ w rb g sb cb mb (l.length + (r + 1) * 6 + 0) (r + 1) 0 wr from ⟨sl, ws, th, F3, log3, h3, i3.mono (by omega), by omega, t3, q3.wrap i3.lt⟩)
          clear h3 i3 l3 t3 q3
          go_wp2
          go_roundw
          case rel => exact ⟨r + 1, by omega, by go_num, G5⟩
          case measure => simp [intOf]; omega
    · obtain rfl : r = 400 := by omega
      obtain ⟨sl, ws, th, F3, log3, h3, i3, l3, t3, q3⟩ := HR.out
      have hq : ∀ (j : Nat) (x : ET), th[j]? = some x → x.inn = false ∧ x.wt = none ∧ x.en = none := by
        intro j x hx
        obtain ⟨q1, q2⟩ := q3.quiet (by omega) hx
        refine ⟨q1, ?_, q2⟩
        have := q3 j x hx
        rw [if_neg (by omega)] at this
        rcases this with h | ⟨-, h | h⟩
        · omega
        · omega
        · cases hwt : x.wt with
          | none => rfl
          | some p =>
            obtain ⟨b, u⟩ := p
            have h1 := h.2 b u hwt
            have h2 := i3.wait j x b u hx hwt
            have h3 := h2.2.2.1
            have h4 := h2.2.2.2.1
            omega
      have H3 := hid h3
      have I3 := hid i3
      have L3 := hid l3
      have T3 := hid t3
      have HQ := hid hq
      clear h3 i3 l3 t3 q3 hq HR hlt
      obtain ⟨wo, rfl⟩ : ∃ wo : World, wo = wr := ⟨_, rfl⟩
      go_wp2
      go_loopw [14] (fun i wq => ∃ t : Nat, t ≤ 6 ∧ i = .int .i64 t ∧ wo = wq) (fun i _ => 6 - (intOf i).toNat)
      case atStart => exact ⟨0, by omega, by first | rfl | trivial, by first | rfl | trivial⟩
      case round =>
        obtain ⟨t, ht6, rfl, rfl⟩ := hrel
        by_cases htl : t < 6
        · obtain ⟨x, hx⟩ : ∃ x, th[t]? = some x := ⟨_, List.getElem?_eq_getElem (by have := I3.out.lt; omega)⟩
          obtain ⟨c0, c1, c2, -⟩ := H3.out.cells hx
          obtain ⟨e1, e2, e3⟩ := HQ.out t x hx
          rw [e3] at c0
          rw [e2] at c1
          rw [e1] at c2
          simp only [ptrO] at c0
          simp only [ptrO] at c1
          clear hx e1 e2 e3
          go_wp2
          go_roundw
          case rel => exact ⟨t + 1, by omega, by go_num, by first | rfl | trivial⟩
          case measure => simp [intOf]; omega
        · obtain rfl : t = 6 := by omega
          have HF := hid (prog_first H3.out I3.out L3.out T3.out (by omega) s ov (fun j x hx => ⟨(HQ.out j x hx).2.1, fun _ => ⟨(HQ.out j x hx).1, (HQ.out j x hx).2.2⟩, fun h => by
            rcases h with h | h
            · rw [(HQ.out j x hx).1] at h; cases h
            · exact absurd (HQ.out j x hx).2.2 h⟩) HS.out S1.out)
          clear htl
          go_wp2_with fail
          refine HF.out.mono ?_
          rintro e w5 ⟨rfl, hg5⟩
          have G5 := hid (show GoodE w rb g sb cb mb s ov (l.length + 3000 + 2 * 1) 1 true w5 from by
            obtain ⟨sl, ws, th, F, log, x5, lv, k1, k2, k3, k4⟩ := hg5
            exact ⟨sl, ws, th, F, log, x5, lv, k1, k2.mono (by omega), by omega, k4⟩)
          clear hg5 HF
          go_wp2
          go_loopw [17] (fun i wq => ∃ (k : Nat) (lv : Bool), 1 ≤ k ∧ k ≤ 12 ∧ i = .int .i64 k ∧ Hid (GoodE w rb g sb cb mb s ov (l.length + 3000 + 2 * k) k lv wq)) (fun i _ => 20 - (intOf i).toNat)
          case atStart => exact ⟨1, true, by omega, by omega, rfl, G5⟩
          case round =>
            obtain ⟨k, lv, k1, k6, rfl, HE⟩ := hrel
            clear G5
            cases lv with
            | true =>
              obtain ⟨k11, b', hb'⟩ : k ≤ 11 ∧ ∃ b', wr.cell? ⟨rb, 38, none⟩ = some (.pointer (some ⟨b', 0, none⟩)) := by
                obtain ⟨sl', ws', th', F', log', x5, lw, p1, p2, p3, p4, p5, p6⟩ := HE.out
                obtain ⟨⟨b, u⟩, rfl⟩ := Option.isSome_iff_exists.1 p6
                have c := (p1.cells (t := 5) p5.at5).2.1
                rw [p5.wt5] at c
                obtain ⟨f1, f2, -⟩ := p5.form b u rfl
                have := (p2.wait 5 x5 b u p5.at5 p5.wt5).2.2.2.1
                exact ⟨by omega, b, c⟩
              have dk : decide (18 ≤ (k : Int)) = false := decide_eq_false (by omega)
              cases qb with
              | true =>
                have hO := prog_other HE.out (by omega) (k % 5) (by omega) ov64 (HQB.out rfl)
                rw [show ((k % 5 : Nat) : Int) = (k : Int) % 5 by omega] at hO
                have HO := hid hO
                clear hO
                go_wp2_with fail
                refine HO.out.mono ?_
                rintro e w6 ⟨rfl, hg6⟩
                have HN := hid (prog_next hg6 (by omega) s)
                clear hg6 HO hb'
                go_wp2_with fail
                refine HN.out.mono ?_
                rintro e w7 ⟨rfl, lv, hg7⟩
                have G7 := hid hg7
                clear hg7 HN
                go_wp2
                go_roundw
                case rel => exact ⟨k + 1, lv, by omega, by omega, by go_num, G7⟩
                case measure => simp [intOf]; omega
              | false =>
                have HN := hid (prog_next HE.out (by omega) s)
                go_wp2_with fail
                refine HN.out.mono ?_
                rintro e w7 ⟨rfl, lv, hg7⟩
                have G7 := hid (show GoodE w rb g sb cb mb s ov (l.length + 3000 + 2 * (k + 1)) (k + 1) lv w7 from by
                  obtain ⟨sl, ws, th, F, log, x5, lw, k1, k2, k3, k4⟩ := hg7
                  exact ⟨sl, ws, th, F, log, x5, lw, k1, k2.mono (by omega), by omega, k4⟩)
                clear hg7 HN hb'
                go_wp2
                go_roundw
                case rel => exact ⟨k + 1, lv, by omega, by omega, by go_num, G7⟩
                case measure => simp [intOf]; omega
            | false =>
              obtain ⟨hk0, hb'⟩ : Keep Nil w wr ∧ wr.cell? ⟨rb, 38, none⟩ = some (.pointer none) := by
                obtain ⟨sl', ws', th', F', log', x5, lw, p1, p2, p3, p4, p5, p6⟩ := HE.out
                have c := (p1.cells (t := 5) p5.at5).2.1
                rw [p5.wt5] at c
                cases lw with
                | none => exact ⟨p1.own.1, c⟩
                | some p => cases p6
              have HH := hid (holds_ok w (w := wr) hk0)
              clear hk0
              go_wp2_with fail
              refine HH.out.mono ?_
              rintro e w6 ⟨rfl, hk6⟩
              have HK6 := hid hk6
              clear hk6
              go_wp2
              go_ret
              exact ⟨rfl, HK6.out⟩
end
set_option maxRecDepth 100000 in
theorem prog_long (w : World) (n : Int) (a : Option Addr) (m c : Nat) (hm : 300 < m) (_h : m ≤ maxLen) (s v : Int) :
    Calls Try.prog 5 #[.int .u8 n, .slice a m c, .int .u64 s, .int .u8 v] w fun e w' => e = .returned (.bool true) ∧ w = w' := by
  have d0 : decide (300 < (m : Int)) = true := decide_eq_true (by omega)
  clear hm
  go_enter Try.func5, Try.ntmps5
  go_wp2
  go_ret
  exact ⟨rfl, rfl⟩
set_option maxRecDepth 100000 in
theorem prog_none (w : World) (n : Int) (a : Option Addr) (m c : Nat) (hm : ¬ 300 < m) (v : Int) :
    Calls Try.prog 5 #[.int .u8 n, .slice a m c, .int .u64 0, .int .u8 v] w fun e w' => e = .returned (.bool true) ∧ w = w' := by
  have d0 : decide (300 < (m : Int)) = false := decide_eq_false (by omega)
  clear hm
  go_enter Try.func5, Try.ntmps5
  go_wp2
  go_ret
  exact ⟨rfl, rfl⟩
theorem walk_progress (w : World) (n : Int) (bn : (Lit.int .u8 n).wf = true) (va : Value) (l : List Go.Lf.Act) (hrd : Rd w 4 va l.length (actCells l)) (hb : ∀ x ∈ l, Go.Lf.Act.wf x) (hm : l.length ≤ maxLen) (s : Int) (bs : (Lit.int .u64 s).wf = true) (v : Int) (bv : (Lit.int .u8 v).wf = true) :
    Calls Try.prog 5 #[.int .u8 n, va, .int .u64 s, .int .u8 v] w fun e w' => e = .returned (.bool true) ∧ Keep Nil w w' := by
  obtain ⟨a, c, rfl, -, -⟩ := id hrd
  by_cases hl : 300 < l.length
  · refine (prog_long w n a l.length c hl hm s v).mono ?_
    rintro e w' ⟨h1, rfl⟩
    exact ⟨h1, Keep.refl _ _⟩
  · by_cases hs : s = 0
    · subst hs
      refine (prog_none w n a l.length c hl v).mono ?_
      rintro e w' ⟨h1, rfl⟩
      exact ⟨h1, Keep.refl _ _⟩
    · obtain ⟨sn, rfl⟩ := Int.eq_ofNat_of_zero_le (u64_wf bs).1
      exact prog_ok n (u8_wf bn).1 a c l hrd hb (by omega) sn (by omega) (by have := (u64_wf bs).2; omega) v (u8_wf bv).1
end Go.Proofs.Ytihgfklajhhikaa
