/- GateCounts: the walk. -/
import Derived.Test.YtihgfklajhhikaaGateHolds
import Derived.Test.YtihgfklajhhikaaGateProg
import Derived.Test.YtihgfklajhhikaaOpenCap
set_option linter.unusedVariables false
set_option linter.unusedSimpArgs false
namespace Go.Lf
theorem wrap_tmod' {a n : Nat} (ha : a < 1000) : IntKind.i64.wrap ((a : Int).tmod n) = (a : Int).tmod n := by
  have := Nat.mod_le a n
  rw [Int.tmod_eq_emod_of_nonneg (Int.natCast_nonneg _), ← Int.natCast_emod, IntKind.wrap_i64]
  omega
end Go.Lf
namespace Go.Proofs.Ytihgfklajhhikaa
open Go.RowKit Go.Lf
theorem infoAct18 : (Try.prog.info? 191).map (fun i => (i.size)) = some 4 := by kernel_rfl
section
variable {w wr : World} {rb g r mb n k : Nat} {s : GS}
theorem cnt_peek (h : GGood w rb g r mb n k s wr) {b : Nat} (hb : b < n) (hn : n ≤ 6) : ∃ x y : Nat, (x : Int) + y = cntB n b s.th ∧ x + y ≤ 12 ∧ (∀ w', Keep Nil wr w' → Calls Try.prog 53 #[ptr mb, .int .i64 (4 * b + 1)] w' fun e w2 => e = .returned (.tuple #[.int .u64 x, .bool true]) ∧ w' = w2) ∧
    ∀ w', Keep Nil wr w' → Calls Try.prog 53 #[ptr mb, .int .i64 (4 * b + 2)] w' fun e w2 => e = .returned (.tuple #[.int .u64 y, .bool true]) ∧ w' = w2 := by
  obtain ⟨F, ml, ws, th, log, H, rfl, hI, hl⟩ := h
  obtain ⟨c1, c2⟩ := hI.cnt b hb
  simp only at c1 c2
  have b1 := cntIn_bound (4 * b + 1) (th.map GT.abs)
  have b2 := cntIn_bound (4 * b + 2) (th.map GT.abs)
  have bl : (th.map GT.abs).length = 6 := hI.lt
  have es : cntB n b (th.map GT.abs) = cntIn (4 * b + 1) (th.map GT.abs) + cntIn (4 * b + 2) (th.map GT.abs) := cntB_sum (fun x hx c hc => by
    obtain ⟨i, hi⟩ := List.getElem?_of_mem hx
    exact ((hI.thr i x hi).inn c hc).1)
  obtain ⟨x, hx⟩ := Int.eq_ofNat_of_zero_le b1.1
  obtain ⟨y, hy⟩ := Int.eq_ofNat_of_zero_le b2.1
  rw [hx] at c1
  rw [hy] at c2
  refine ⟨x, y, by rw [es, hx, hy], by omega, fun w' hk => ?_, fun w' hk => ?_⟩
  · exact peek_ok (H.mem.keep hk (fun _ _ h => h)) (4 * b + 1) x (by omega) (by rw [show ((4 * (b : Int) + 1)).toNat = 4 * b + 1 by omega]; exact c1)
  · exact peek_ok (H.mem.keep hk (fun _ _ h => h)) (4 * b + 2) y (by omega) (by rw [show ((4 * (b : Int) + 2)).toNat = 4 * b + 2 by omega]; exact c2)
set_option maxRecDepth 100000 in
set_option maxHeartbeats 3000000 in
theorem counts_ok (nn : Int) (n0 : 0 ≤ nn) (a : Option Addr) (c : Nat) (l : List Go.Lf.Act) (hrd : Rd w 4 (.slice a l.length c) l.length (actCells l)) (hcap : l.length ≤ c) (hwf : ∀ x ∈ l, x.wf) (hl : l.length ≤ 400) :
    Calls Try.prog 11 #[.int .u8 nn, .slice a l.length c] w fun e w' => e = .returned (.bool true) ∧ Keep Nil w w' := by
  obtain ⟨n, hn⟩ : ∃ n : Nat, 1 + nn % 6 = (n : Int) := ⟨1 + (nn % 6).toNat, by omega⟩
  have K1 : 1 ≤ n := by omega
  have K6 : n ≤ 6 := by omega
  have HB := hid (gbegin_run (w := w) w (Keep.refl _ _) n K1 K6)
  have HD := hid hrd
  have HW := hid hwf
  have d0 : decide (400 < (l.length : Int)) = false := decide_eq_false (by omega)
  have hnz : ((n : Int) == 0) = false := beq_eq_false_iff_ne.2 (by omega)
  clear hrd hwf
  go_enter Try.func11, Try.ntmps11
  go_wp2_with fail
  refine (HB.out).mono ?_
  rintro e w1 ⟨rb, g, r, mb, rfl, hr⟩
  have HG := hid hr
  clear hr HB
  go_wp2
  go_loopw [7] (fun i wr => ∃ (k : Nat) (s : GS), k ≤ l.length ∧ i = .int .i64 k ∧ Hid (GGood w rb g r mb n k s wr)) (fun i _ => l.length - (intOf i).toNat)
  case atStart => exact ⟨0, _, Nat.zero_le _, rfl, HG⟩
  case round =>
    obtain ⟨k, s, hk, rfl, HR⟩ := hrel
    clear HG
    by_cases hlt : k < l.length
    · obtain ⟨x, hx⟩ : ∃ x, l[k]? = some x := ⟨_, List.getElem?_eq_getElem hlt⟩
      have hxw := HW.out x (List.mem_of_getElem? hx)
      obtain ⟨xb, xo, xc, hve, hc⟩ := Rd.cell HD.out (by omega)
      simp only [Value.slice.injEq] at hve
      obtain ⟨rfl, -, rfl⟩ := hve
      have hrd1 : Rd w 4 (.slice (some ⟨xb, xo + k * 4, none⟩) [x].length (c - k)) [x].length (actCells [x]) := by
        refine ⟨_, _, rfl, rfl, .inr <| .inl ⟨xb, xo + k * 4, rfl, fun j u hu => ?_⟩⟩
        rw [Nat.add_assoc]
        refine hc _ _ (actCells_at hx ?_)
        simpa [actCells] using hu
      have HP := hid (gplay_ok (by omega) _ _ [x] hrd1 (fun y hy => by simp only [List.mem_cons, List.not_mem_nil, or_false] at hy; rw [hy]; exact hxw) (by simp) (by omega) HR.out)
      have hsl : ∀ W : World, (Instr.slice 99 (.slice (some ⟨xb, xo, none⟩) l.length c) (some (.int .i64 k)) (some (.int .i64 (k + 1))) none).run Try.prog W = .ok (.slice (some ⟨xb, xo + k * 4, none⟩) 1 (c - k)) W := fun W => by
        obtain ⟨i, hi, hz⟩ : ∃ i, Try.prog.info? 191 = some i ∧ i.size = 4 := by
          have := infoAct18
          cases h : Try.prog.info? 191 with
          | none => rw [h] at this; cases this
          | some i => rw [h] at this; exact ⟨i, rfl, by simpa using this⟩
        have q1 : ¬ c = k := by omega
        simp [Instr.slice, run_underlying Try.underlying99, Instr.sliceBounds, Instr.sliceBound, asIntOf, sizeOf, typeInfo, hi, hz, Result.andThen, addr_add, q1, show (k : Int) + 1 ≤ c by omega, show (0 : Int) ≤ (k : Int) + 1 by omega]
        try omega
      clear hx hxw hrd1
      go_wp2_with fail
      refine HP.out.mono ?_
      rintro e w2 ⟨rfl, hg2⟩
      have HQ := hid (show GGood w rb g r mb n (k + 1) (s.plays n [x]) w2 from hg2)
      clear hg2 HP HR hsl
      generalize s.plays n [x] = s1 at HQ
      go_wp2
      go_loopw [8] (fun i wr => ∃ b : Nat, b ≤ n ∧ i = .int .i64 b ∧ Hid (GGood w rb g r mb n (k + 1) s1 wr)) (fun i _ => n - (intOf i).toNat)
      case atStart => exact ⟨0, Nat.zero_le _, rfl, HQ⟩
      case round =>
        obtain ⟨b, hb, rfl, HR⟩ := hrel
        clear HQ
        by_cases hbn : b < n
        · have hbn' : decide ((b : Int) < (n : Int)) = true := decide_eq_true (by omega)
          obtain ⟨wo, rfl⟩ : ∃ wo : World, wo = wr := ⟨_, rfl⟩
          go_wp2
          go_loopw [9, 10] (fun c i wq => ∃ (t : Nat) (z : Nat), t ≤ 6 ∧ z ≤ t ∧ i = .int .i64 t ∧ c = .int .u64 z ∧ Hid ((z : Int) = cntB n b (s1.th.take t)) ∧ wo = wq) (fun _ i _ => 6 - (intOf i).toNat)
          case atStart => exact ⟨0, 0, by omega, by omega, rfl, rfl, hid rfl, by first | rfl | trivial⟩
          case round =>
            obtain ⟨t, z, ht6, hz, rfl, rfl, HZ, rfl⟩ := hrel
            by_cases htl : t < 6
            · obtain ⟨y, hy⟩ := HR.out.at6 htl
              have c2 := HR.out.cIn hy
              have c3 := HR.out.cVal hy
              have yv := (HR.out.inv.thr t y hy).v
              have HT := hid (cntB_take (n := n) (b := b) hy)
              obtain ⟨yi, hyi⟩ : ∃ yi, yi = y.p.isIn := ⟨_, rfl⟩
              obtain ⟨vn, hvn⟩ : ∃ vn, vn = y.val := ⟨_, rfl⟩
              rw [← hyi, ← hvn] at HT
              rw [← hyi] at c2
              rw [← hvn] at c3 yv
              clear hyi hvn hy
              have ev : IntKind.i64.wrap ((vn : Int).tmod n) = (vn : Int).tmod n := wrap_tmod' (by omega)
              have ez : IntKind.u64.wrap ((z : Int) + 1) = (z : Int) + 1 := by rw [IntKind.wrap_u64]; omega
              cases yi with
              | false =>
                have HZ2 := hid (show (z : Int) = cntB n b (s1.th.take (t + 1)) from by rw [HT.out, ← HZ.out, if_neg (fun h => by cases h.1)]; omega)
                clear HT
                go_wp2
                go_roundw
                case rel => exact ⟨t + 1, z, by omega, by omega, by go_num, rfl, HZ2, by first | rfl | trivial⟩
                case measure => simp [intOf]; omega
              | true =>
                obtain ⟨c, hc⟩ : ∃ c, (vn % n == b) = c := ⟨_, rfl⟩
                have de : ((vn : Int) % (n : Int) == (b : Int)) = c := by
                  rw [← hc, ← Int.natCast_emod, Bool.eq_iff_iff, beq_iff_eq, beq_iff_eq]
                  omega
                cases c with
                | true =>
                  have HZ2 := hid (show ((z + 1 : Nat) : Int) = cntB n b (s1.th.take (t + 1)) from by rw [HT.out, ← HZ.out, if_pos ⟨rfl, beq_iff_eq.1 hc⟩]; omega)
                  clear HT hc
                  go_wp2
                  go_roundw
                  case rel => exact ⟨t + 1, z + 1, by omega, by omega, by go_num, by go_num, HZ2, by first | rfl | trivial⟩
                  case measure => simp [intOf]; omega
                | false =>
                  have HZ2 := hid (show (z : Int) = cntB n b (s1.th.take (t + 1)) from by rw [HT.out, ← HZ.out, if_neg (fun h => beq_eq_false_iff_ne.1 hc h.2)]; omega)
                  clear HT hc
                  go_wp2
                  go_roundw
                  case rel => exact ⟨t + 1, z, by omega, by omega, by go_num, rfl, HZ2, by first | rfl | trivial⟩
                  case measure => simp [intOf]; omega
            · obtain rfl : t = 6 := by omega
              have hzz : (z : Int) = cntB n b s1.th := by rw [HZ.out, List.take_of_length_le (by have := HR.out.inv.lt; omega)]
              obtain ⟨p, q, e1, e2, P1, P2⟩ := cnt_peek HR.out hbn K6
              have cm := HR.out.top.1
              have P1' := hid (P1 wo (Keep.refl _ _))
              have P2' := hid (P2 wo (Keep.refl _ _))
              have hpz : p + q = z := by omega
              have epq : IntKind.u64.wrap ((p : Int) + q) = (p : Int) + q := by rw [IntKind.wrap_u64]; omega
              have ne : ((p : Int) + q == (z : Int)) = true := beq_iff_eq.2 (by omega)
              clear hzz P1 P2 htl HZ hpz
              go_wp2_with fail
              refine P1'.out.mono ?_
              rintro e w3 ⟨rfl, rfl⟩
              go_wp2_with fail
              refine P2'.out.mono ?_
              rintro e w4 ⟨rfl, rfl⟩
              go_wp2
              go_roundw
              case rel => exact ⟨b + 1, by omega, by go_num, HR⟩
              case measure => simp [intOf]; omega
        · obtain rfl : b = n := by omega
          go_wp2
          go_roundw
          case rel => exact ⟨k + 1, _, by omega, by go_num, HR⟩
          case measure => simp [intOf]; omega
    · obtain rfl : k = l.length := by omega
      have HH := hid (holds_ok w (w := wr) HR.out.own)
      go_wp2_with fail
      refine HH.out.mono ?_
      rintro e w6 ⟨rfl, hk6⟩
      have HK6 := hid hk6
      clear hk6
      go_wp2
      go_ret
      exact ⟨rfl, HK6.out⟩
end
set_option maxRecDepth 100000 in
theorem counts_long (w : World) (n : Int) (a : Option Addr) (m c : Nat) (hm : 400 < m) (_h : m ≤ maxLen) :
    Calls Try.prog 11 #[.int .u8 n, .slice a m c] w fun e w' => e = .returned (.bool true) ∧ w = w' := by
  have d0 : decide (400 < (m : Int)) = true := decide_eq_true (by omega)
  clear hm
  go_enter Try.func11, Try.ntmps11
  go_wp2
  go_ret
  exact ⟨rfl, rfl⟩
theorem walk_counts (w : World) (n : Int) (bn : (Lit.int .u8 n).wf = true) (v : Value) (l : List Go.Lf.Act) (hrd : Rd w 4 v l.length (actCells l)) (hb : ∀ x ∈ l, Go.Lf.Act.wf x) (hm : l.length ≤ maxLen ∧ CapOk v) :
    Calls Try.prog 11 #[.int .u8 n, v] w fun e w' => e = .returned (.bool true) ∧ Keep Nil w w' := by
  obtain ⟨a, c, rfl, -, -⟩ := id hrd
  by_cases hl : l.length ≤ 400
  · exact counts_ok n (u8_wf bn).1 a c l hrd (hm.2 a _ c rfl) hb hl
  · refine (counts_long w n a l.length c (by omega) hm.1).mono ?_
    rintro e w' ⟨h1, rfl⟩
    exact ⟨h1, Keep.refl _ _⟩
end Go.Proofs.Ytihgfklajhhikaa
