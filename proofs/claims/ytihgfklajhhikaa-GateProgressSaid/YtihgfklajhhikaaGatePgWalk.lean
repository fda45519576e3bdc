/- GateProgress: the walk. -/
import Derived.Test.YtihgfklajhhikaaGateCov
set_option linter.unusedVariables false
set_option linter.unusedSimpArgs false
namespace Go.Lf
theorem enter_at_other {n t u : Nat} {s : GS} {x : GA} (h : t ≠ u) : (s.enter n t x).th[u]? = s.th[u]? := by
  unfold GS.enter
  split
  · simp only [List.getElem?_set, if_neg h]
  · simp only [List.getElem?_set, if_neg h]
  · rfl
theorem act_at_other {n t u : Nat} {s : GS} {v set : Nat} (h : t ≠ u) (hw : ∀ x, s.th[t]? = some x → x.p.isWt = false) : (s.act n t 0 v set).th[u]? = s.th[u]? := by
  unfold GS.act
  cases hx : s.th[t]? with
  | none => rfl
  | some x =>
    have hw := hw x hx
    simp only
    cases hp : x.p with
    | wt a b c => rw [hp] at hw; cases hw
    | ent c => exact enter_at_other h
    | inn c => simp only; rw [if_neg (by decide)]; simp only [List.getElem?_set, if_neg h]
    | idle =>
      simp only
      rw [if_pos (by decide), enter_at_other h]
      simp only [List.getElem?_set, if_neg h]
end Go.Lf
namespace Go.Proofs.Ytihgfklajhhikaa
open Go.RowKit Go.Lf
section
variable {w wr : World} {rb g r mb n k : Nat} {s : GS}
/-- A busy thread's act. -/
theorem gbusy_act {x : GA} {t K : Nat} (h : GGood w rb g r mb n K s wr) (hn : n ≤ 16) (hK : K < 1000000) (t6 : t < 6) (hx : s.th[t]? = some x) (hp : x.p ≠ .idle) :
    Calls Try.prog 50 #[ptr rb, .int .i64 t, .int .u8 0, .int .i64 0, .int .u64 1] wr fun e w' => e = .returned (.bool true) ∧ GGood w rb g r mb n (K + 1) (s.busy n t) w' := by
  rw [busy_act hx hp]
  exact gact_good h hn hK t6 0 0 1 (by decide) (by decide) (by decide) (by decide)
set_option maxRecDepth 100000 in
set_option maxHeartbeats 3000000 in
theorem prog_ok (nn : Int) (n0 : 0 ≤ nn) (a : Option Addr) (c : Nat) (l : List Go.Lf.Act) (hrd : Rd w 4 (.slice a l.length c) l.length (actCells l)) (hwf : ∀ x ∈ l, x.wf) (hl : l.length ≤ 300) (st : Nat) (hs : st ≠ 0) (hs1 : st < 18446744073709551616) (v : Int) (v0 : 0 ≤ v) :
    Calls Try.prog 10 #[.int .u8 nn, .slice a l.length c, .int .u64 st, .int .u8 v] w fun e w' => e = .returned (.bool true) ∧ Keep Nil w w' := by
  obtain ⟨n, hn⟩ : ∃ n : Nat, 1 + nn % 6 = (n : Int) := ⟨1 + (nn % 6).toNat, by omega⟩
  have K1 : 1 ≤ n := by omega
  have K6 : n ≤ 6 := by omega
  have HB := hid (gbegin_run (w := w) w (Keep.refl _ _) n K1 K6)
  have HD := hid hrd
  have HW := hid hwf
  have HS := hid hs
  have HS1 := hid hs1
  have d0 : decide (300 < (l.length : Int)) = false := decide_eq_false (by omega)
  have d1 : ((st : Int) == 0) = false := beq_eq_false_iff_ne.2 (by omega)
  obtain ⟨ov, hov⟩ : ∃ ov : Nat, v % 64 = (ov : Int) := ⟨(v % 64).toNat, by omega⟩
  have ov64 : ov < 64 := by omega
  obtain ⟨qb, hqb⟩ : ∃ qb : Bool, inB st n (ov % n) = qb := ⟨_, rfl⟩
  have HQB := hid hqb
  have HCV := hid (fun w => @covers_ok w st n ov K1 (by omega) ov64)
  rw [hqb] at HCV
  clear hrd hwf hs hs1 hqb
  go_enter Try.func10, Try.ntmps10
  go_wp2_with fail
  refine (HB.out).mono ?_
  rintro e w1 ⟨rb, g, r, mb, rfl, hr⟩
  have HG := hid hr
  clear hr HB
  go_wp2_with fail
  refine (gplay_ok (by omega) a c l HD.out HW.out (by omega) (by decide) HG.out).mono ?_
  rintro e w2 ⟨rfl, hg2⟩
  obtain ⟨s0, hs0⟩ : ∃ s0, s0 = GS.plays n (GS.init n) l := ⟨_, rfl⟩
  rw [← hs0] at hg2
  have Q2 := hid (show GGood w rb g r mb n (l.length + 0 * 6 + 0) (s0.rnds n 0) w2 from hg2.more (by omega))
  have I0 := hid (show GInv n s0 ((l.length + 0 * 6 + 0 : Nat) : Int) from Q2.out.inv)
  clear hg2 HG hs0 HD HW
  go_wp2
  go_loopw [11] (fun i wr => ∃ r' : Nat, r' ≤ 400 ∧ i = .int .i64 r' ∧ Hid (GGood w rb g r mb n (l.length + r' * 6 + 0) (s0.rnds n r') wr)) (fun i _ => 400 - (intOf i).toNat)
  case atStart => exact ⟨0, by omega, rfl, Q2⟩
  case round =>
    obtain ⟨r', hr4, rfl, HR⟩ := hrel
    clear Q2
    by_cases hlt : r' < 400
    · have dr : decide (r' < 400) = true := decide_eq_true hlt
      have dr' : decide ((r' : Int) < 400) = true := decide_eq_true (by omega)
      go_wp2
      go_loopw [12] (fun i wq => ∃ t : Nat, t ≤ 6 ∧ i = .int .i64 t ∧ Hid (GGood w rb g r mb n (l.length + r' * 6 + t) ((s0.rnds n r').rnd n t) wq)) (fun i _ => 6 - (intOf i).toNat)
      case atStart => exact ⟨0, by omega, rfl, HR⟩
      case round =>
        obtain ⟨t, ht6, rfl, HT⟩ := hrel
        clear HR
        by_cases htl : t < 6
        · obtain ⟨x, hx⟩ := HT.out.at6 htl
          have HX := hid hx
          have HA := hid (fun hp => gbusy_act HT.out (by omega) (by omega) htl hx hp)
          have HI := hid (fun (hp : x.p = .idle) => busy_idle (n := n) hx hp)
          obtain ⟨xp, hp⟩ : ∃ xp, xp = x.p := ⟨_, rfl⟩
          have HP := hid hp
          cases xp with
          | ent c =>
            obtain ⟨b, c0⟩ := HT.out.cEn hx (by rw [← hp]; rfl)
            have c0' : wr.cell? ⟨rb, 2 + t * 7, none⟩ = some (.pointer (some ⟨b, 0, none⟩)) := c0
            have HA2 := hid (HA.out (by rw [← hp]; simp))
            clear hx hp c0 HA HI
            go_wp2_with fail
            refine HA2.out.mono ?_
            rintro e w5 ⟨rfl, hg5⟩
            have G5 := hid (show GGood w rb g r mb n (l.length + r' * 6 + (t + 1)) ((s0.rnds n r').rnd n (t + 1)) w5 from hg5)
            clear hg5 HA2 c0'
            go_wp2
            go_roundw
            case rel => exact ⟨t + 1, by omega, by go_num, G5⟩
            case measure => simp [intOf]; omega
          | wt a1 a2 a3 =>
            have c0 := HT.out.cNoEn hx (by rw [← hp]; rfl)
            obtain ⟨b, c1⟩ := HT.out.cWt hx (by rw [← hp]; rfl)
            have c1' : wr.cell? ⟨rb, 2 + t * 7 + 1, none⟩ = some (.pointer (some ⟨b, 0, none⟩)) := c1
            have HA2 := hid (HA.out (by rw [← hp]; simp))
            clear hx hp c1 HA HI
            go_wp2_with fail
            refine HA2.out.mono ?_
            rintro e w5 ⟨rfl, hg5⟩
            have G5 := hid (show GGood w rb g r mb n (l.length + r' * 6 + (t + 1)) ((s0.rnds n r').rnd n (t + 1)) w5 from hg5)
            clear hg5 HA2 c0 c1'
            go_wp2
            go_roundw
            case rel => exact ⟨t + 1, by omega, by go_num, G5⟩
            case measure => simp [intOf]; omega
          | inn c =>
            have c0 := HT.out.cNoEn hx (by rw [← hp]; rfl)
            have c1 := HT.out.cNoWt hx (by rw [← hp]; rfl)
            have c2 := HT.out.cIn hx
            rw [← hp, show GP.isIn (.inn c) = true from rfl] at c2
            have HA2 := hid (HA.out (by rw [← hp]; simp))
            clear hx hp HA HI
            go_wp2_with fail
            refine HA2.out.mono ?_
            rintro e w5 ⟨rfl, hg5⟩
            have G5 := hid (show GGood w rb g r mb n (l.length + r' * 6 + (t + 1)) ((s0.rnds n r').rnd n (t + 1)) w5 from hg5)
            clear hg5 HA2 c0 c1 c2
            go_wp2
            go_roundw
            case rel => exact ⟨t + 1, by omega, by go_num, G5⟩
            case measure => simp [intOf]; omega
          | idle =>
            have c0 := HT.out.cNoEn hx (by rw [← hp]; rfl)
            have c1 := HT.out.cNoWt hx (by rw [← hp]; rfl)
            have c2 := HT.out.cIn hx
            rw [← hp, show GP.isIn .idle = false from rfl] at c2
            have G5 := hid (show GGood w rb g r mb n (l.length + r' * 6 + (t + 1)) ((s0.rnds n r').rnd n (t + 1)) wr from by
              show GGood w rb g r mb n _ (((s0.rnds n r').rnd n t).busy n t) wr
              rw [HI.out hp.symm]
              exact HT.out.more (by omega))
            clear hx hp HA HI
            go_wp2
            go_roundw
            case rel => exact ⟨t + 1, by omega, by go_num, G5⟩
            case measure => simp [intOf]; omega
        · obtain rfl : t = 6 := by omega
          have G5 := hid (show GGood w rb g r mb n (l.length + (r' + 1) * 6 + 0) (s0.rnds n (r' + 1)) wr from by
            have := HT.out
            rw [show l.length + (r' + 1) * 6 + 0 = l.length + r' * 6 + 6 by omega]
            exact this)
          go_wp2
          go_roundw
          case rel => exact ⟨r' + 1, by omega, by go_num, G5⟩
          case measure => simp [intOf]; omega
    · obtain rfl : r' = 400 := by omega
      obtain ⟨s, hs⟩ : ∃ s, s = s0.rnds n 400 := ⟨_, rfl⟩
      have hi : ∀ (t : Nat) (x : GA), s.th[t]? = some x → x.p = .idle := by
        rw [hs]
        exact I0.out.rnds_idle K6 (by omega)
      have H3 := hid (show GGood w rb g r mb n (l.length + 2400) s wr from by rw [hs]; exact HR.out)
      have HQ := hid hi
      clear hs hi HR hlt I0
      obtain ⟨wo, rfl⟩ : ∃ wo : World, wo = wr := ⟨_, rfl⟩
      go_wp2
      go_loopw [14] (fun i wq => ∃ t : Nat, t ≤ 6 ∧ i = .int .i64 t ∧ wo = wq) (fun i _ => 6 - (intOf i).toNat)
      case atStart => exact ⟨0, by omega, by first | rfl | trivial, by first | rfl | trivial⟩
      case round =>
        obtain ⟨t, ht6, rfl, rfl⟩ := hrel
        by_cases htl : t < 6
        · obtain ⟨x, hx⟩ := H3.out.at6 htl
          have hp := HQ.out t x hx
          have c0 := H3.out.cNoEn hx (by rw [hp]; rfl)
          have c1 := H3.out.cNoWt hx (by rw [hp]; rfl)
          have c2 := H3.out.cIn hx
          rw [hp, show GP.isIn .idle = false from rfl] at c2
          clear hx hp
          go_wp2
          go_roundw
          case rel => exact ⟨t + 1, by omega, by go_num, by first | rfl | trivial⟩
          case measure => simp [intOf]; omega
        · obtain rfl : t = 6 := by omega
          clear htl
          go_wp2_with fail
          refine (HCV.out _).mono ?_
          rintro e w4 ⟨rfl, hk4⟩
          have H4 := hid (H3.out.keep hk4)
          have HF := hid (show Calls Try.prog 50 #[ptr rb, .int .i64 5, .int .u8 2, .int .i64 0, .int .u64 st] w4 fun e w' => e = .returned (.bool true) ∧ GGood w rb g r mb n (l.length + 2401) (s.act n 5 2 0 st) w' from
            gact_good H4.out (by omega) (by omega) (t := 5) (by decide) 2 0 st (by decide) (by decide) HS.out HS1.out)
          have HL := hid (show LW n (!qb) ov 1 (s.act n 5 2 0 st) from LW.first H3.out.inv HQ.out (!qb) ov st 0 HS.out HS1.out (fun h => by rw [HQB.out]; simpa using h))
          clear hk4 HCV
          go_wp2_with fail
          refine HF.out.mono ?_
          rintro e w5 ⟨rfl, hg5⟩
          have G5 := hid (show GGood w rb g r mb n (l.length + 2401 + 2 * 1) (s.act n 5 2 0 st) w5 from hg5.more (by omega))
          clear hg5 HF H3 H4 HQ
          go_wp2
          go_loopw [17] (fun i wq => ∃ (m : Nat) (s' : GS), 1 ≤ m ∧ m ≤ 36 ∧ i = .int .i64 m ∧ Hid (GGood w rb g r mb n (l.length + 2401 + 2 * m) s' wq) ∧ Hid (LW n (!qb) ov m s')) (fun i _ => 40 - (intOf i).toNat)
          case atStart => exact ⟨1, _, by omega, by omega, rfl, G5, HL⟩
          case round =>
            obtain ⟨m, s', m1, m36, rfl, HE, HL'⟩ := hrel
            clear G5 HL
            obtain ⟨x, hx⟩ := HE.out.at6 (t := 5) (by decide)
            obtain ⟨iw, hiw⟩ : ∃ iw, iw = x.p.isWt := ⟨_, rfl⟩
            cases iw with
            | true =>
              obtain ⟨b, cb⟩ := HE.out.cWt hx hiw.symm
              have c38 : wr.cell? ⟨rb, 38, none⟩ = some (.pointer (some ⟨b, 0, none⟩)) := cb
              have hm := HL'.out.lt HE.out.inv hx hiw.symm
              have dk : decide (6 * (n : Int) ≤ (m : Int)) = false := decide_eq_false (by omega)
              have HX := hid hx
              have HIW := hid hiw
              clear hx hiw cb
              cases qb with
              | false =>
                obtain ⟨u, hu⟩ : ∃ u : Nat, u = m % 5 := ⟨_, rfl⟩
                have hu5 : u < 5 := by omega
                have hO := gact_good HE.out (by omega) (by omega) (t := u) (by omega) 0 ov 1 (by decide) ov64 (by decide) (by decide)
                rw [show ((u : Nat) : Int) = (m : Int) % 5 by omega] at hO
                have HO := hid hO
                have HL2 := hid (HL'.out.other HE.out.inv (t := u) (by omega) rfl 1)
                have HX2 := hid (show (s'.act n u 0 ov 1).th[5]? = some x from (act_at_other (by omega) (fun y hy => (HL'.out.oth u y (by omega) hy).1)).trans HX.out)
                clear hO hu hu5
                go_wp2_with fail
                refine HO.out.mono ?_
                rintro e w6 ⟨rfl, hg6⟩
                have HN := hid (show Calls Try.prog 50 #[ptr rb, .int .i64 5, .int .u8 2, .int .i64 0, .int .u64 st] w6 fun e w' => e = .returned (.bool true) ∧ GGood w rb g r mb n (l.length + 2401 + 2 * (m + 1)) (GS.act n (s'.act n u 0 ov 1) 5 2 0 st) w' from
                  gact_good hg6 (by omega) (by omega) (t := 5) (by decide) 2 0 st (by decide) (by decide) HS.out HS1.out)
                have HL3 := hid (HL2.out.next hg6.inv HX2.out HIW.out.symm 2 0 st)
                clear hg6 HO c38
                go_wp2_with fail
                refine HN.out.mono ?_
                rintro e w7 ⟨rfl, hg7⟩
                have G7 := hid hg7
                clear hg7 HN
                go_wp2
                go_roundw
                case rel => first | exact ⟨m + 1, _, by omega, by omega, by go_num, G7, HL3⟩ | ((repeat apply Exists.intro); exact ⟨⟨m + 1, _, by omega, by omega, by go_num, G7, HL3⟩, rfl⟩)
                case measure => simp [intOf]; omega
              | true =>
                have HN := hid (show Calls Try.prog 50 #[ptr rb, .int .i64 5, .int .u8 2, .int .i64 0, .int .u64 st] wr fun e w' => e = .returned (.bool true) ∧ GGood w rb g r mb n (l.length + 2401 + 2 * m + 1) (GS.act n s' 5 2 0 st) w' from
                  gact_good HE.out (by omega) (by omega) (t := 5) (by decide) 2 0 st (by decide) (by decide) HS.out HS1.out)
                have HL3 := hid (HL'.out.next HE.out.inv HX.out HIW.out.symm 2 0 st)
                go_wp2_with fail
                refine HN.out.mono ?_
                rintro e w7 ⟨rfl, hg7⟩
                have G7 := hid (show GGood w rb g r mb n (l.length + 2401 + 2 * (m + 1)) (GS.act n s' 5 2 0 st) w7 from hg7.more (by omega))
                clear hg7 HN c38
                go_wp2
                go_roundw
                case rel => first | exact ⟨m + 1, _, by omega, by omega, by go_num, G7, HL3⟩ | ((repeat apply Exists.intro); exact ⟨⟨m + 1, _, by omega, by omega, by go_num, G7, HL3⟩, rfl⟩)
                case measure => simp [intOf]; omega
            | false =>
              have cb := HE.out.cNoWt hx hiw.symm
              have c38 : wr.cell? ⟨rb, 38, none⟩ = some (.pointer none) := cb
              have HH := hid (holds_ok w (w := wr) HE.out.own)
              clear hx hiw cb
              go_wp2_with fail
              refine HH.out.mono ?_
              rintro e w6 ⟨rfl, hk6⟩
              have HK6 := hid hk6
              clear hk6
              go_wp2
              go_ret
              exact ⟨rfl, HK6.out⟩
end
set_option maxRecDepth 100000 in
theorem prog_long (w : World) (n : Int) (a : Option Addr) (m c : Nat) (hm : 300 < m) (_h : m ≤ maxLen) (s v : Int) :
    Calls Try.prog 10 #[.int .u8 n, .slice a m c, .int .u64 s, .int .u8 v] w fun e w' => e = .returned (.bool true) ∧ w = w' := by
  have d0 : decide (300 < (m : Int)) = true := decide_eq_true (by omega)
  clear hm
  go_enter Try.func10, Try.ntmps10
  go_wp2
  go_ret
  exact ⟨rfl, rfl⟩
set_option maxRecDepth 100000 in
theorem prog_none (w : World) (n : Int) (a : Option Addr) (m c : Nat) (hm : ¬ 300 < m) (v : Int) :
    Calls Try.prog 10 #[.int .u8 n, .slice a m c, .int .u64 0, .int .u8 v] w fun e w' => e = .returned (.bool true) ∧ w = w' := by
  have d0 : decide (300 < (m : Int)) = false := decide_eq_false (by omega)
  clear hm
  go_enter Try.func10, Try.ntmps10
  go_wp2
  go_ret
  exact ⟨rfl, rfl⟩
theorem walk_progress (w : World) (n : Int) (bn : (Lit.int .u8 n).wf = true) (va : Value) (l : List Go.Lf.Act) (hrd : Rd w 4 va l.length (actCells l)) (hb : ∀ x ∈ l, Go.Lf.Act.wf x) (hm : l.length ≤ maxLen) (s : Int) (bs : (Lit.int .u64 s).wf = true) (v : Int) (bv : (Lit.int .u8 v).wf = true) :
    Calls Try.prog 10 #[.int .u8 n, va, .int .u64 s, .int .u8 v] w fun e w' => e = .returned (.bool true) ∧ Keep Nil w w' := by
  obtain ⟨a, c, rfl, -, -⟩ := id hrd
  by_cases hl : 300 < l.length
  · refine (prog_long w n a l.length c hl hm s v).mono ?_
    rintro e w' ⟨h1, rfl⟩
    exact ⟨h1, Keep.refl _ _⟩
  · by_cases hs : s = 0
    · subst hs
      refine (prog_none w n a l.length c hl v).mono ?_
      rintro e w' ⟨h1, rfl⟩
      exact ⟨h1, Keep.refl _ _⟩
    · obtain ⟨sn, rfl⟩ := Int.eq_ofNat_of_zero_le (u64_wf bs).1
      exact prog_ok n (u8_wf bn).1 a c l hrd hb (by omega) sn (by omega) (by have := (u64_wf bs).2; omega) v (u8_wf bv).1
end Go.Proofs.Ytihgfklajhhikaa
