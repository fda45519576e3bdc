/- FullProgress: the walk itself. -/
import Derived.Test.YtckopbjejjeknaaFullPgWalk
namespace Go.Proofs.Ytckopbjejjeknaa
open Go.RowKit Go.Lf
section
variable {w wr : World} {rb g nb bb mb : Nat}
set_option maxRecDepth 100000 in
set_option maxHeartbeats 16000000 in
theorem prog_ok (n : Int) (n0 : 0 ≤ n) (a : Option Addr) (c : Nat) (l : List Go.Lf.Act) (hrd : Rd w 4 (.slice a l.length c) l.length (actCells l)) (hwf : ∀ x ∈ l, x.wf) (hl : l.length ≤ 300) (s : Int) (hs : s ≠ 0) (v : Int) (v0 : 0 ≤ v) :
    Calls Try.prog 8 #[.int .u8 n, .slice a l.length c, .int .u64 s, .int .u8 v] w fun e w' => e = .returned (.bool true) ∧ Keep Nil w w' := by
  have HB := hid (fun m => @begin_any w w (Keep.refl _ _) m)
  have HD := hid hrd
  have HW := hid hwf
  have HS := hid hs
  have d0 : decide (300 < (l.length : Int)) = false := decide_eq_false (by omega)
  have d1 : (s == 0) = false := beq_eq_false_iff_ne.2 hs
  clear hrd hwf hs
  go_enter Try.func8, Try.ntmps8
  go_wp2_with fail
  refine (HB.out _).mono ?_
  rintro e w1 ⟨rb, g, nb, bb, mb, F, rfl, hr⟩
  have HG := hid (show Good w rb g nb bb mb 0 w1 from ⟨_, _, F, [], hr, inv_new, Nat.le_refl _⟩)
  clear hr HB
  go_wp2_with fail
  refine (play_ok a c l HD.out HW.out (by omega) HG.out).mono ?_
  rintro e w2 ⟨rfl, hg2⟩
  have Q2 := hid (show GoodQ w rb g nb bb mb (l.length + 0 * 6 + 0) 0 0 w2 from by
    obtain ⟨nums, th, F2, log, h1, h2, h3⟩ := hg2
    exact ⟨nums, th, F2, log, h1, h2, h3, fun j x _ => by rw [if_neg (by omega)]; exact .inl rfl⟩)
  clear hg2 HG
  go_wp2
  go_loopw [11] (fun i wr => ∃ r : Nat, r ≤ 400 ∧ i = .int .i64 r ∧ Hid (GoodQ w rb g nb bb mb (l.length + r * 6 + 0) r 0 wr)) (fun i _ => 400 - (intOf i).toNat)
  case atStart => exact ⟨0, by omega, rfl, Q2⟩
  case round =>
    obtain ⟨r, hr4, rfl, HR⟩ := hrel
    clear Q2
    by_cases hlt : r < 400
    · have dr : decide (r < 400) = true := decide_eq_true hlt
      have dr' : decide ((r : Int) < 400) = true := decide_eq_true (by omega)
      obtain ⟨wo, rfl⟩ : ∃ wo : World, wo = wr := ⟨_, rfl⟩
      go_wp2
      go_loopw [12] (fun i wq => ∃ t : Nat, t ≤ 6 ∧ i = .int .i64 t ∧ Hid (GoodQ w rb g nb bb mb (l.length + r * 6 + t) r t wq)) (fun i _ => 6 - (intOf i).toNat)
      case atStart => exact ⟨0, by omega, rfl, HR⟩
      case round =>
        obtain ⟨t, ht6, rfl, HT⟩ := hrel
        clear HR
        obtain ⟨nums, th, F3, log3, h3, i3, l3, q3⟩ := HT.out
        by_cases htl : t < 6
        · obtain ⟨x, hx⟩ : ∃ x, th[t]? = some x := ⟨_, List.getElem?_eq_getElem (by have := i3.lt; omega)⟩
          obtain ⟨m, hm⟩ : ∃ m, nums[t]? = some m := ⟨_, List.getElem?_eq_getElem (by have := i3.ln; omega)⟩
          have hen := (i3.num t x m hx hm).1
          obtain ⟨c0, c1, c2, -⟩ := h3.cells hx
          rw [hen] at c0
          simp only [ptrE] at c0
          have HA := hid (fun hb => round_act h3 i3 l3 (by omega) htl q3 hx hb)
          cases hwt : x.wt with
          | some p =>
            obtain ⟨b, u⟩ := p
            rw [hwt] at c1
            simp only [ptrW] at c1
            have HA2 := hid (HA.out (.inr (by rw [hwt]; simp)))
            clear h3 i3 l3 q3 hx hm hen c2 HA hwt
            go_wp2_with fail
            refine HA2.out.mono ?_
            rintro e w5 ⟨rfl, hg5⟩
            have G5 := hid hg5
            clear hg5 HA2 c0 c1
            go_wp2
            go_roundw
            case rel => exact ⟨t + 1, by omega, by go_num, G5⟩
            case measure => simp [intOf]; omega
          | none =>
            rw [hwt] at c1
            simp only [ptrW] at c1
            cases hin : x.inn with
            | true =>
              rw [hin] at c2
              have HA2 := hid (HA.out (.inl hin))
              clear h3 i3 l3 q3 hx hm hen HA hwt hin
              go_wp2_with fail
              refine HA2.out.mono ?_
              rintro e w5 ⟨rfl, hg5⟩
              have G5 := hid hg5
              clear hg5 HA2 c0 c1 c2
              go_wp2
              go_roundw
              case rel => exact ⟨t + 1, by omega, by go_num, G5⟩
              case measure => simp [intOf]; omega
            | false =>
              rw [hin] at c2
              have G5 := hid (show GoodQ w rb g nb bb mb (l.length + r * 6 + (t + 1)) r (t + 1) wr from ⟨nums, th, F3, log3, h3, i3.mono (by omega), by omega, q3.skip (fun x' hx' => by
                rw [hx] at hx'; obtain rfl := Option.some.inj hx'
                exact .inr ⟨hin, fun b u h => by rw [hwt] at h; cases h⟩)⟩)
              clear h3 i3 l3 q3 hx hm hen HA hwt hin
              go_wp2
              go_roundw
              case rel => exact ⟨t + 1, by omega, by go_num, G5⟩
              case measure => simp [intOf]; omega
        · obtain rfl : t = 6 := by omega
          have G5 := hid (show GoodQ w rb g nb bb mb (l.length + (r + 1) * 6 + 0) (r + 1) 0 wr from ⟨nums, th, F3, log3, h3, i3.mono (by omega), by omega, q3.wrap i3.lt⟩)
          clear h3 i3 l3 q3
          go_wp2
          go_roundw
          case rel => exact ⟨r + 1, by omega, by go_num, G5⟩
          case measure => simp [intOf]; omega
    · obtain rfl : r = 400 := by omega
      obtain ⟨nums, th, F3, log3, h3, i3, l3, q3⟩ := HR.out
      have hq : ∀ (j : Nat) (x : PT), th[j]? = some x → x.inn = false ∧ x.wt = none := by
        intro j x hx
        have := q3 j x hx
        rw [if_neg (by omega)] at this
        rcases this with h | h
        · omega
        · refine ⟨h.1, ?_⟩
          cases hwt : x.wt with
          | none => rfl
          | some p =>
            obtain ⟨b, u⟩ := p
            have h1 := h.2 b u hwt
            have h2 := (i3.wait j x b u hx hwt).2.2.1
            omega
      have H3 := hid h3
      have I3 := hid i3
      have L3 := hid l3
      have HQ := hid hq
      clear h3 i3 l3 q3 hq HR hlt
      obtain ⟨wo, rfl⟩ : ∃ wo : World, wo = wr := ⟨_, rfl⟩
      go_wp2
      go_loopw [14] (fun i wq => ∃ t : Nat, t ≤ 6 ∧ i = .int .i64 t ∧ wo = wq) (fun i _ => 6 - (intOf i).toNat)
      case atStart => exact ⟨0, by omega, by first | rfl | trivial, by first | rfl | trivial⟩
      case round =>
        obtain ⟨t, ht6, rfl, rfl⟩ := hrel
        by_cases htl : t < 6
        · obtain ⟨x, hx⟩ : ∃ x, th[t]? = some x := ⟨_, List.getElem?_eq_getElem (by have := I3.out.lt; omega)⟩
          obtain ⟨m, hm⟩ : ∃ m, nums[t]? = some m := ⟨_, List.getElem?_eq_getElem (by have := I3.out.ln; omega)⟩
          have hen := (I3.out.num t x m hx hm).1
          obtain ⟨c0, c1, c2, -⟩ := H3.out.cells hx
          obtain ⟨e1, e2⟩ := HQ.out t x hx
          rw [hen] at c0
          rw [e2] at c1
          rw [e1] at c2
          simp only [ptrE] at c0
          simp only [ptrW] at c1
          clear hx hm hen e1 e2
          go_wp2
          go_roundw
          case rel => exact ⟨t + 1, by omega, by go_num, by first | rfl | trivial⟩
          case measure => simp [intOf]; omega
        · obtain rfl : t = 6 := by omega
          have HF := hid (prog_first H3.out I3.out L3.out (by omega) HQ.out s HS.out)
          clear htl
          go_wp2_with fail
          refine HF.out.mono ?_
          rintro e w5 ⟨rfl, hg5⟩
          have G5 := hid (show GoodE w rb g nb bb mb (l.length + 3000 + 1) 1 w5 from by
            obtain ⟨nums, th, F, log, b, x5, k1, k2, k3, k4⟩ := hg5
            exact ⟨nums, th, F, log, b, x5, k1, k2.mono (by omega), by omega, k4⟩)
          clear hg5 HF
          go_wp2
          go_loopw [17] (fun i wq => ∃ k : Nat, 1 ≤ k ∧ k ≤ 6 ∧ i = .int .i64 k ∧ Hid (GoodE w rb g nb bb mb (l.length + 3000 + k) k wq)) (fun i _ => 10 - (intOf i).toNat)
          case atStart => exact ⟨1, by omega, by omega, rfl, G5⟩
          case round =>
            obtain ⟨k, k1, k6, rfl, HE⟩ := hrel
            clear G5
            obtain ⟨nums', th', F', log', b', x5, p1, p2, p3, p4, p5, p6⟩ := HE.out
            have cw := (p1.cells (t := 5) p5).2.1
            by_cases hk6 : k < 6
            · have c38 : wr.cell? ⟨rb, 38, none⟩ = some (.pointer (some ⟨b', 0, none⟩)) := by
                rw [p6, if_pos hk6] at cw; exact cw
              have HN := hid (prog_next HE.out (by omega) hk6 s)
              clear p1 p2 p3 p4 p5 p6 cw
              go_wp2_with fail
              refine HN.out.mono ?_
              rintro e w6 ⟨rfl, hg6⟩
              have G6 := hid hg6
              clear hg6 HN c38
              go_wp2
              go_roundw
              case rel => exact ⟨k + 1, by omega, by omega, by go_num, G6⟩
              case measure => simp [intOf]; omega
            · obtain rfl : k = 6 := by omega
              have c38 : wr.cell? ⟨rb, 38, none⟩ = some (.pointer none) := by
                rw [p6, if_neg hk6] at cw; exact cw
              have HH := hid (holds_ok w (w := wr) p1.own.1)
              clear p1 p2 p3 p4 p5 p6 cw
              go_wp2_with fail
              refine HH.out.mono ?_
              rintro e w6 ⟨rfl, hk6⟩
              have HK6 := hid hk6
              clear hk6
              go_wp2
              go_ret
              exact ⟨rfl, HK6.out⟩
end
set_option maxRecDepth 100000 in
theorem prog_long (w : World) (n : Int) (a : Option Addr) (m c : Nat) (hm : 300 < m) (_h : m ≤ maxLen) (s v : Int) :
    Calls Try.prog 8 #[.int .u8 n, .slice a m c, .int .u64 s, .int .u8 v] w fun e w' => e = .returned (.bool true) ∧ w = w' := by
  have d0 : decide (300 < (m : Int)) = true := decide_eq_true (by omega)
  clear hm
  go_enter Try.func8, Try.ntmps8
  go_wp2
  go_ret
  exact ⟨rfl, rfl⟩
set_option maxRecDepth 100000 in
theorem prog_none (w : World) (n : Int) (a : Option Addr) (m c : Nat) (hm : ¬ 300 < m) (v : Int) :
    Calls Try.prog 8 #[.int .u8 n, .slice a m c, .int .u64 0, .int .u8 v] w fun e w' => e = .returned (.bool true) ∧ w = w' := by
  have d0 : decide (300 < (m : Int)) = false := decide_eq_false (by omega)
  clear hm
  go_enter Try.func8, Try.ntmps8
  go_wp2
  go_ret
  exact ⟨rfl, rfl⟩
theorem walk_progress (w : World) (n : Int) (bn : (Lit.int .u8 n).wf = true) (va : Value) (l : List Go.Lf.Act) (hrd : Rd w 4 va l.length (actCells l)) (hb : ∀ x ∈ l, Go.Lf.Act.wf x) (hm : l.length ≤ maxLen) (s : Int) (_bs : (Lit.int .u64 s).wf = true) (v : Int) (bv : (Lit.int .u8 v).wf = true) :
    Calls Try.prog 8 #[.int .u8 n, va, .int .u64 s, .int .u8 v] w fun e w' => e = .returned (.bool true) ∧ Keep Nil w w' := by
  obtain ⟨a, c, rfl, -, -⟩ := id hrd
  by_cases hl : 300 < l.length
  · refine (prog_long w n a l.length c hl hm s v).mono ?_
    rintro e w' ⟨h1, rfl⟩
    exact ⟨h1, Keep.refl _ _⟩
  · by_cases hs : s = 0
    · subst hs
      refine (prog_none w n a l.length c hl v).mono ?_
      rintro e w' ⟨h1, rfl⟩
      exact ⟨h1, Keep.refl _ _⟩
    · exact prog_ok n (u8_wf bn).1 a c l hrd hb (by omega) s hs v (u8_wf bv).1
end Go.Proofs.Ytckopbjejjeknaa
