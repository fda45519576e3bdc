/- EachIgnores: the walk. -/
import Derived.Test.YtihgfklajhhikaaEachProg
namespace Go.Proofs.Ytihgfklajhhikaa
open Go.RowKit Go.Lf
section
variable {w wr : World} {rb g sb cb mb : Nat}
/-- The first threads are in sections that do not concern the set, or idle; the others are idle. -/
def GoodI (w : World) (rb g sb cb mb : Nat) (set K t : Nat) (w' : World) : Prop := ∃ sl ws th F log, ERunAt w w' rb g sb cb mb F sl ws th log ∧ EInv sl ws th K ∧ log.length ≤ K ∧ SetsOk th ∧
  ∀ (j : Nat) (x : ET), th[j]? = some x → x.wt = none ∧ x.en = none ∧ (t ≤ j → x.inn = false) ∧ (x.inn = true → conc (set : Int) x.val = false)
/-- One of them has marked. -/
def GoodM (w : World) (rb g sb cb mb : Nat) (set K t : Nat) (w' : World) : Prop := ∃ sl ws th F log, ERunAt w w' rb g sb cb mb F sl ws th log ∧ EInv sl ws th K ∧ log.length ≤ K ∧ SetsOk th ∧
  (∃ x eb, th[t]? = some x ∧ x.en = some (eb, 1) ∧ x.wt = none ∧ conc (set : Int) x.val = false) ∧
  ∀ (j : Nat) (x : ET), th[j]? = some x → j ≠ t → x.wt = none ∧ x.en = none ∧ (t ≤ j → x.inn = false) ∧ (x.inn = true → conc (set : Int) x.val = false)
theorem ign_one {set K t : Nat} (hG : GoodI w rb g sb cb mb set K t wr) (hK : K < 1000000) (ht : t < 5) (v : Nat) (v1 : v < 64) (hq : conc (set : Int) (v : Int) = false) :
    Calls Try.prog 30 #[.pointer (some ⟨rb, 0, none⟩), .int .i64 t, .int .u8 0, .int .i64 v, .int .u64 1] wr fun e w' => e = .returned (.bool true) ∧ GoodM w rb g sb cb mb set (K + 1) t w' := by
  obtain ⟨sl, ws, th, F, log, h, hI, hl, hS, hA⟩ := hG
  obtain ⟨x, hx⟩ : ∃ x, th[t]? = some x := ⟨_, List.getElem?_eq_getElem (by have := hI.lt; omega)⟩
  obtain ⟨⟨m, bg⟩, hn⟩ : ∃ p, sl[t]? = some p := ⟨_, List.getElem?_eq_getElem (by have := hI.ln; omega)⟩
  have a := hI.num t x m bg hx hn
  obtain ⟨nn0, nn1, nnI, nnO⟩ := EInv.nn a
  obtain ⟨hwt, hen, hin, -⟩ := hA t x hx
  have hin := hin (Nat.le_refl _)
  obtain rfl : bg = false := by rw [a.beg, hen]; rfl
  refine (eact_enter h t x hx hen hwt hin 0 v 1 (by decide) (by decide) (by omega) (by omega) m hn nn0 (nnO hin) (by omega)).mono ?_
  rintro e w' ⟨rfl, eb, F', log', hr, hl'⟩
  refine ⟨rfl, _, _, _, F', log', hr, (hI.mark hx hn hin hwt (by omega) (by omega) eb).mono (by omega), by omega, hS.put (hS t x hx), ⟨_, eb, put_self hx _, rfl, hwt, hq⟩, fun j y hy hj => ?_⟩
  rcases set_cases hy with ⟨e1, e2⟩ | ⟨e1, e2⟩
  · exact absurd e1 hj
  · exact hA j y e2
theorem ign_two {set K t : Nat} (hG : GoodM w rb g sb cb mb set K t wr) (hK : K < 1000000) (ht : t < 5) (v : Int) :
    Calls Try.prog 30 #[.pointer (some ⟨rb, 0, none⟩), .int .i64 t, .int .u8 0, .int .i64 v, .int .u64 1] wr fun e w' => e = .returned (.bool true) ∧ GoodI w rb g sb cb mb set (K + 1) (t + 1) w' ∧ w'.cell? ⟨rb, 2 + t * 7 + 2, none⟩ = some (.bool true) := by
  obtain ⟨sl, ws, th, F, log, h, hI, hl, hS, ⟨x, eb, hx, hen, hwt, hc⟩, hA⟩ := hG
  obtain ⟨⟨m, bg⟩, hn⟩ : ∃ p, sl[t]? = some p := ⟨_, List.getElem?_eq_getElem (by have := hI.ln; have := hI.lt; have := lt_of_at hx; omega)⟩
  have a := hI.num t x m bg hx hn
  obtain ⟨nn0, nn1, nnI, nnO⟩ := EInv.nn a
  have s0 := a.s0
  have s1 := a.s1
  refine eact_en h t x eb 1 hx hen 0 v 1 ((erenter_seq h t x eb hx hen m bg hn nn0 (by omega) (by omega) s0 (by omega)).mono ?_)
  rintro e w' ⟨rfl, F', log', hr, hl'⟩
  refine ⟨rfl, ⟨_, _, _, F', log', hr, by rw [show ((K + 1 : Nat) : Int) = (K : Int) + 1 by omega]; exact hI.seq hx hn hen, by omega, hS.put (hS t x hx), fun j y hy => ?_⟩, (hr.cells (put_self hx _)).2.2.1⟩
  rcases set_cases hy with ⟨e1, e2⟩ | ⟨e1, e2⟩
  · subst e2
    exact ⟨hwt, rfl, fun h => by omega, fun _ => hc⟩
  · obtain ⟨b1, b2, b3, b4⟩ := hA j y e2 e1
    exact ⟨b1, b2, fun h => b3 (by omega), b4⟩

theorem u8s_at {zs : List Int} {k : Nat} {x : Int} (h : zs[k]? = some x) : (zs.map (Value.int .u8))[k]? = some (.int .u8 x) := by simp [h]
set_option maxRecDepth 100000 in
set_option maxHeartbeats 16000000 in
theorem ign_ok (zs : List Int) (hz : zs.length = 5) (hwf : ∀ z ∈ zs, (Lit.int .u8 z).wf = true) (s : Nat) (hs1 : s < 18446744073709551616) :
    Calls Try.prog 6 #[.agg (zs.map (Value.int .u8)).toArray, .int .u64 s] w fun e w' => e = .returned (.bool true) ∧ Keep Nil w w' := by
  obtain ⟨y0, y1, y2, y3, y4, rfl⟩ : ∃ y0 y1 y2 y3 y4, zs = [y0, y1, y2, y3, y4] := by
    match zs, hz with
    | [a, b, c, d, e], _ => exact ⟨a, b, c, d, e, rfl⟩
  have kA : Keep Nil w (w.alloc (.cells ([y0, y1, y2, y3, y4].map (Value.int .u8)).toArray 65)) := (Keep.refl Nil w).alloc _
  have hrow := heap_alloc_new w (.cells ([y0, y1, y2, y3, y4].map (Value.int .u8)).toArray 65)
  have HROW := hid (show ∀ (k : Nat) (x : Int) (wq : World), [y0, y1, y2, y3, y4][k]? = some x → Keep Nil (w.alloc (.cells ([y0, y1, y2, y3, y4].map (Value.int .u8)).toArray 65)) wq → wq.cell? ⟨w.heap.size, k, none⟩ = some (.int .u8 x) from fun k x wq hx hk => by
    rw [cell_of (hk.at hrow (fun h => h))]
    simpa using u8s_at hx)
  have HB := hid (ebegin_any (w.alloc (.cells ([y0, y1, y2, y3, y4].map (Value.int .u8)).toArray 65)) (Keep.refl _ _) 1)
  have HW := hid hwf
  have KA := hid kA
  have S1 := hid hs1
  clear kA hrow hwf hs1 hz
  go_enter Try.func6, Try.ntmps6
  go_wp2_with fail
  refine HB.out.mono ?_
  obtain ⟨w0, hw0⟩ : ∃ w0, w0 = w.alloc (.cells ([y0, y1, y2, y3, y4].map (Value.int .u8)).toArray 65) := ⟨_, rfl⟩
  rw [← hw0] at HROW HB KA ⊢
  clear hw0
  rintro e w1 ⟨rb, g, sb, cb, mb, F, rfl, hr⟩
  have HG := hid (show GoodI w0 rb g sb cb mb s (2 * 0) 0 w1 from ⟨_, _, _, F, [], hr, einv_new, Nat.le_refl _, esets_new, fun j x hx => by
    rw [List.getElem?_replicate] at hx
    split at hx
    · rw [← Option.some.inj hx]; exact ⟨rfl, rfl, fun _ => rfl, fun h => by simp [z0] at h⟩
    · cases hx⟩)
  clear hr HB
  go_wp2
  go_loopw [6] (fun i wr => ∃ t : Nat, t ≤ 5 ∧ i = .int .i64 t ∧ Hid (GoodI w0 rb g sb cb mb s (2 * t) t wr)) (fun i _ => 5 - (intOf i).toNat)
  case atStart => exact ⟨0, by omega, rfl, HG⟩
  case round =>
    obtain ⟨t, ht, rfl, HR⟩ := hrel
    clear HG
    by_cases hlt : t < 5
    · obtain ⟨x, hx⟩ : ∃ x, [y0, y1, y2, y3, y4][t]? = some x := ⟨_, List.getElem?_eq_getElem (by simpa using hlt)⟩
      have hwx := HW.out x (List.mem_of_getElem? hx)
      obtain ⟨x0, x1⟩ : 0 ≤ x ∧ x ≤ 255 := by
        simp [Lit.wf, IntKind.min, IntKind.max, IntKind.signed, IntKind.bits] at hwx
        exact ⟨by omega, by omega⟩
      have hkr : Keep Nil w0 wr := by obtain ⟨_, _, _, _, _, h1, -⟩ := HR.out; exact h1.own.1
      have cx := HROW.out t x wr hx hkr
      obtain ⟨ov, hov⟩ : ∃ ov : Nat, x % 64 = (ov : Int) := ⟨(x % 64).toNat, by omega⟩
      have ov64 : ov < 64 := by omega
      have hw8 : IntKind.i64.wrap (ov : Int) = ov := by rw [IntKind.wrap_i64]; omega
      have hw9 : IntKind.u64.wrap (ov : Int) = ov := by rw [IntKind.wrap_u64]; omega
      have hcn := conc_nat s ov ov64
      clear hx hwx hkr
      by_cases hb : s.testBit ov = true
      · have dd := shr_mod s ov true hb
        have HQ := hid (show GoodI w0 rb g sb cb mb s (2 * (t + 1)) (t + 1) wr from by
          obtain ⟨sl, ws, th, F, log, h1, h2, h3, h4, h5⟩ := HR.out
          exact ⟨sl, ws, th, F, log, h1, h2.mono (by omega), by omega, h4, fun j x hx => by
            obtain ⟨b1, b2, b3, b4⟩ := h5 j x hx
            exact ⟨b1, b2, fun h => b3 (by omega), b4⟩⟩)
        clear hb hcn HR
        go_wp2
        go_roundw
        case rel => exact ⟨t + 1, by omega, by go_num, HQ⟩
        case measure => simp [intOf]; omega
      · have hb' : s.testBit ov = false := by simpa using hb
        have dd := shr_mod s ov false hb'
        rw [hb'] at hcn
        have HA := hid (ign_one HR.out (by omega) hlt ov ov64 hcn)
        clear hb hb' hcn HR
        go_wp2_with fail
        refine HA.out.mono ?_
        rintro e w2 ⟨rfl, hg2⟩
        have HA2 := hid (ign_two hg2 (by omega) hlt ov)
        clear hg2 HA
        go_wp2_with fail
        refine HA2.out.mono ?_
        rintro e w3 ⟨rfl, hg3, c3⟩
        have HQ := hid (show GoodI w0 rb g sb cb mb s (2 * (t + 1)) (t + 1) w3 from hg3)
        clear hg3 HA2
        go_wp2
        go_roundw
        case rel => exact ⟨t + 1, by omega, by go_num, HQ⟩
        case measure => simp [intOf]; omega
    · have ht5 : t = 5 := by omega
      obtain ⟨sl, ws, th, F3, log3, h3, i3, l3, t3, q3⟩ := HR.out
      by_cases hs0 : s = 0
      · have d0 : ((s : Int) == 0) = true := by rw [hs0]; rfl
        have HH := hid (holds_ok w (w := wr) (KA.out.trans h3.own.1 (fun _ _ h => h)))
        clear hs0 h3 i3 l3 t3 q3 HR hlt
        go_wp2_with fail
        refine HH.out.mono ?_
        rintro e w6 ⟨rfl, hk6⟩
        have HK6 := hid hk6
        clear hk6
        go_wp2
        go_ret
        exact ⟨rfl, HK6.out⟩
      · have d0 : ((s : Int) == 0) = false := beq_eq_false_iff_ne.2 (by omega)
        have HP := hid (prog_first h3 i3 l3 t3 (by omega) s (fun j x hx => ⟨(q3 j x hx).1, fun e => ⟨(q3 j x hx).2.2.1 (by omega), (q3 j x hx).2.1⟩, fun h => by
          rcases h with h | h
          · exact (q3 j x hx).2.2.2 h
          · exact absurd (q3 j x hx).2.1 h⟩) hs0 S1.out)
        have HT5 := hid ht5
        have dt : decide (t < 5) = false := decide_eq_false (by omega)
        have dt' : decide ((t : Int) < 5) = false := decide_eq_false (by omega)
        clear hs0 h3 i3 l3 t3 q3 HR hlt ht ht5
        obtain ⟨wo, rfl⟩ : ∃ wo : World, wo = wr := ⟨_, rfl⟩
        go_wp2
        go_loopw [8] (fun i wq => ∃ k : Nat, k ≤ 11 ∧ i = .int .i64 k ∧ ((k = 0 ∧ wo = wq) ∨ Hid (1 ≤ k ∧ GoodE w0 rb g sb cb mb s (10 + k) k true wq))) (fun i _ => 18 - (intOf i).toNat)
        case atStart => exact ⟨0, by omega, rfl, .inl ⟨rfl, by first | rfl | trivial⟩⟩
        case round =>
          obtain ⟨k, hk, rfl, hor⟩ := hrel
          have dk : decide (k < 18) = true := decide_eq_true (by omega)
          have dk' : decide ((k : Int) < 18) = true := decide_eq_true (by omega)
          have hc : Calls Try.prog 30 #[.pointer (some ⟨rb, 0, none⟩), .int .i64 5, .int .u8 2, .int .i64 0, .int .u64 s] wr fun e w' => e = .returned (.bool true) ∧ ∃ live, GoodE w0 rb g sb cb mb s (10 + (k + 1)) (k + 1) live w' := by
            rcases hor with ⟨rfl, rfl⟩ | h
            · refine HP.out.mono ?_
              rintro e w' ⟨h1, h2⟩
              rw [HT5.out] at h2
              exact ⟨h1, true, h2⟩
            · refine (prog_next h.out.2 (by omega) s).mono ?_
              rintro e w' ⟨h1, lv, h2⟩
              exact ⟨h1, lv, h2⟩
          have HC := hid hc
          clear hc hor
          go_wp2_with fail
          refine HC.out.mono ?_
          rintro e w5 ⟨rfl, lv, hq⟩
          clear HC
          cases lv with
          | true =>
            obtain ⟨k11, b', hb'⟩ : k + 1 ≤ 11 ∧ ∃ b', w5.cell? ⟨rb, 38, none⟩ = some (.pointer (some ⟨b', 0, none⟩)) := by
              obtain ⟨sl', ws', th', F', log', x5, lw, p1, p2, p3, p4, p5, p6⟩ := id hq
              obtain ⟨⟨b, u⟩, rfl⟩ := Option.isSome_iff_exists.1 p6
              have c := (p1.cells (t := 5) p5.at5).2.1
              rw [p5.wt5] at c
              obtain ⟨f1, f2, -⟩ := p5.form b u rfl
              have := (p2.wait 5 x5 b u p5.at5 p5.wt5).2.2.2.1
              exact ⟨by omega, b, c⟩
            have HQ := hid hq
            clear hq
            go_wp2
            go_roundw
            case rel => exact ⟨k + 1, by omega, by go_num, .inr (hid ⟨by omega, HQ.out⟩)⟩
            case measure => simp [intOf]; omega
          | false =>
            obtain ⟨hk0, hb'⟩ : Keep Nil w0 w5 ∧ w5.cell? ⟨rb, 38, none⟩ = some (.pointer none) := by
              obtain ⟨sl', ws', th', F', log', x5, lw, p1, p2, p3, p4, p5, p6⟩ := id hq
              have c := (p1.cells (t := 5) p5.at5).2.1
              rw [p5.wt5] at c
              cases lw with
              | none => exact ⟨p1.own.1, c⟩
              | some p => cases p6
            have HH := hid (holds_ok w (w := w5) (KA.out.trans hk0 (fun _ _ h => h)))
            clear hk0 hq
            go_wp2_with fail
            refine HH.out.mono ?_
            rintro e w6 ⟨rfl, hk6⟩
            have HK6 := hid hk6
            clear hk6
            go_wp2
            go_ret
            exact ⟨rfl, HK6.out⟩
theorem walk_ign (w : World) (zs : List Int) (hz : zs.length = 5) (hwf : ∀ z ∈ zs, (Lit.int .u8 z).wf = true) (s : Int) (bs : (Lit.int .u64 s).wf = true) :
    Calls Try.prog 6 #[.agg (zs.map (Value.int .u8)).toArray, .int .u64 s] w fun e w' => e = .returned (.bool true) ∧ Keep Nil w w' := by
  obtain ⟨s0, s1⟩ := u64_wf bs
  obtain ⟨sn, rfl⟩ := Int.eq_ofNat_of_zero_le s0
  exact ign_ok zs hz hwf sn (by omega)
end
end Go.Proofs.Ytihgfklajhhikaa
