/- TopGrace: the walk. -/
import Derived.Test.YtldjlcdccnnogaaGreatMade
import Derived.Test.YtldjlcdccnnogaaGreatMgGr
set_option linter.unusedVariables false
set_option linter.unusedSimpArgs false
namespace Go.Proofs.YtldjlcdccnnogaaGreat
open Go.RowKit Go.Lf
theorem RigsArg.keep {w w' : World} {z : RigsV} (h : RigsArg w z) (hk : Keep Nil w w') : RigsArg w' z :=
  ⟨h.k, h.b, rd_keep h.rp hk (fun _ _ e => e), fun y hy => ⟨rd_keep (h.ps y hy).rd hk (fun _ _ e => e), (h.ps y hy).ops⟩, rd_keep h.rk hk (fun _ _ e => e), h.pk⟩
/-- How many waits there are among the first i events. -/
def wcnt (l : List EvR) (i : Nat) : Nat := ((l.take i).filter fun x => decide (x.kind = 3)).length
theorem wcnt_yes {l : List EvR} {i : Nat} {x : EvR} (h : l[i]? = some x) (hk : x.kind = 3) : wcnt l (i + 1) = wcnt l i + 1 := by unfold wcnt; rw [take_snoc_ev h, List.filter_append]; simp [hk]
theorem wcnt_no {l : List EvR} {i : Nat} {x : EvR} (h : l[i]? = some x) (hk : x.kind ≠ 3) : wcnt l (i + 1) = wcnt l i := by unfold wcnt; rw [take_snoc_ev h, List.filter_append]; simp [hk]
/-- A rig between two picks, made since w. -/
structure RLoop {n : Nat} (E : PrW n) (C : RgC) (w wz : World) (s : RgS) (i : Nat) : Prop where
  lie : ∃ A, (RigL E C).lie wz A s ∧ ∀ k, A k → w.heap.size ≤ k
  kp : Keep Nil w wz
  g : RgG n E.bnd s
  st : s.st = i
theorem RLoop.quiet {n : Nat} {E : PrW n} {C : RgC} {w wz wz' : World} {s : RgS} {i : Nat} (h : RLoop E C w wz s i) (hk : Keep Nil wz wz') : RLoop E C w wz' s i := by
  obtain ⟨A, h1, h2⟩ := h.lie
  exact ⟨⟨A, (RigL E C).keep h1 hk (fun _ _ e => e), h2⟩, h.kp.trans hk (fun _ _ e => e), h.g, h.st⟩
/-- A pick of a rig, as the laws see it. -/
theorem rloop_pick {n : Nat} {E : PrW n} {C : RgC} {w wz : World} {s : RgS} {i : Nat} (h : RLoop E C w wz s i) (hn0 : 1 ≤ n) (hn : n ≤ 6) (hi : i ≤ 400) {p : Int} (b0 : -9223372036854775808 ≤ p) (b1 : p ≤ 9223372036854775807) :
    Calls Tryz.prog 7 #[pb C.m, .int .i64 p] wz fun e w' => ∃ (k : Nat) (pc : Int) (ac tk d : Bool) (s2 : RgS), e = .returned (.tuple #[.agg #[.int .i64 k, .int .u8 pc, .bool ac, .bool tk, .bool d], .int .i64 0]) ∧ k < n ∧ RLoop E C w w' s2 (i + 1) ∧ PkR n E.bnd E.conc k s s2 pc := by
  obtain ⟨A, h1, h2⟩ := h.lie
  have hp0 := Int.emod_nonneg p (show (n : Int) ≠ 0 by omega)
  have hp1 := Int.emod_lt_of_pos p (show (0 : Int) < (n : Int) by omega)
  refine (rpickL h1 h.g hn (by have := h.st; omega) b0 b1 (k := (p % n).toNat) (by omega) (by omega)).mono ?_
  rintro e w' ⟨pc, ac, tk, d, s2, rfl, g2, st2, pk, A2, l2, k2, f2⟩
  have := h.kp.size
  exact ⟨_, pc, ac, tk, d, s2, rfl, by omega, ⟨⟨A2, l2, fun k hk => (f2 k hk).elim (h2 k) (fun e => by omega)⟩, h.kp.trans k2 (fun j hj e => by have := h2 j e; omega), g2, by rw [st2, h.st]⟩, pk⟩
theorem rloop_events {n : Nat} {E : PrW n} {C : RgC} {w wz : World} {s : RgS} {i : Nat} (h : RLoop E C w wz s i) (hi : i ≤ 400) : Calls Tryz.prog 9 #[pb C.m] wz (EvsTo wz s.l) := by
  obtain ⟨A, ⟨A0, arr, ev, h1, -⟩, -⟩ := h.lie
  exact events_ok h1 (by have := h.g.len; have := h.st; omega)
set_option maxRecDepth 100000 in
set_option maxHeartbeats 4000000 in
theorem walk_tgrace (w : World) (z : RigsV) (hz : RigsArg w z) : Calls Tryz.prog 3 #[z.val] w fun e w' => e = .returned (.bool true) ∧ Keep Nil w w' := by
  obtain ⟨pa, pc, hv, -⟩ := id hz.rp
  obtain ⟨ka, kc, hv2, -⟩ := id hz.rk
  obtain ⟨kind, bk, pv, ps, kv, picks⟩ := z
  simp only at hv hv2
  subst hv hv2
  obtain ⟨W1, hW1⟩ : ∃ W1, W1 = w.alloc (.cells #[.int .u8 kind, .int .u8 bk, .slice pa ps.length pc, .slice ka picks.length kc] 25 (0, 0)) := ⟨_, rfl⟩
  have k1 : Keep Nil w W1 := by rw [hW1]; exact (Keep.refl _ _).alloc _
  have o1 : W1.heap[w.heap.size]? = some (.cells #[.int .u8 kind, .int .u8 bk, .slice pa ps.length pc, .slice ka picks.length kc] 25 (0, 0)) := by rw [hW1]; exact heap_alloc_new _ _
  have hz1 := hz.keep k1
  have HSH := hid (show Calls Tryz.prog 5 #[.agg #[.int .u8 kind, .int .u8 bk, .slice pa ps.length pc, .slice ka picks.length kc], .int .i64 300] W1 fun e w' => e = .returned (.bool (rShort ⟨kind, bk, .slice pa ps.length pc, ps, .slice ka picks.length kc, picks⟩ 300)) ∧ Keep Nil W1 w' from short_any _ hz1 300 (by decide))
  have x0 : W1.cell? ⟨w.heap.size, 0, none⟩ = some (.int .u8 kind) := by rw [cell_of o1]; rfl
  have x1 : W1.cell? ⟨w.heap.size, 1, none⟩ = some (.int .u8 bk) := by rw [cell_of o1]; rfl
  have x2 : W1.cell? ⟨w.heap.size, 2, none⟩ = some (.slice pa ps.length pc) := by rw [cell_of o1]; rfl
  have x3 : W1.cell? ⟨w.heap.size, 3, none⟩ = some (.slice ka picks.length kc) := by rw [cell_of o1]; rfl
  have HK1 := hid k1
  have HZ1 := hid hz1
  have X3 := hid x3
  unfold RigsV.val
  simp only
  cases hsh : rShort ⟨kind, bk, .slice pa ps.length pc, ps, .slice ka picks.length kc, picks⟩ 300 with
  | false =>
    rw [hsh] at HSH
    clear hz k1 o1 hz1
    subst hW1
    go_enter Tryz.func3, Tryz.ntmps3
    go_wp2_with fail
    refine HSH.out.mono ?_
    rintro e w' ⟨rfl, hk⟩
    go_wp2
    go_ret
    exact ⟨rfl, HK1.out.trans hk (fun _ _ e => e)⟩
  | true =>
    rw [hsh] at HSH
    have hshq := hsh
    unfold rShort at hshq
    simp only [Bool.and_eq_true, decide_eq_true_eq] at hshq
    obtain ⟨⟨n0, n6, m300⟩, -⟩ := hshq
    have HMD := hid (fun (w2 : World) (hk : Keep Nil W1 w2) => (show Calls Tryz.prog 6 #[.agg #[.int .u8 kind, .int .u8 bk, .slice pa ps.length pc, .slice ka picks.length kc]] w2 (MadeTo w2 ps.length) from made_ok _ (HZ1.out.keep hk) 300 hsh))
    clear hz o1 hz1 hsh
    subst hW1
    go_enter Tryz.func3, Tryz.ntmps3
    go_wp2_with fail
    refine HSH.out.mono ?_
    rintro e w2 ⟨rfl, hk2⟩
    have y0 := hk2.cell x0 (fun e => e)
    have y1 := hk2.cell x1 (fun e => e)
    have y2 := hk2.cell x2 (fun e => e)
    have y3 := hk2.cell x3 (fun e => e)
    have HM := hid (HMD.out w2 hk2)
    have HRK := hid (rd_keep HZ1.out.rk hk2 (fun _ _ e => e))
    have HPK := hid HZ1.out.pk
    have HK2 := hid (HK1.out.trans hk2 (fun _ _ e => e))
    clear HSH HMD x0 x1 x2 x3 hk2 HZ1 X3 k1 HK1
    go_wp2_with fail
    refine HM.out.mono ?_
    rintro e w3 ⟨kd, nb, E, C, A, s, -, -, -, -, -, rfl, hlie, hG, hst, -, hk3, hA⟩
    have HL0 := hid (show RLoop E C w2 w3 s 0 from ⟨⟨A, hlie, hA⟩, hk3, hG, hst⟩)
    have Y3 := hid y3
    clear HM y0 y1 y2 y3 hlie hG hst hk3 hA
    generalize w.heap.size = xb at *
    go_wp2

    go_loopw [6] (fun iv wz => ∃ (i : Nat) (s : RgS), i ≤ picks.length ∧ iv = .int .i64 (i : Int) ∧ Hid (RLoop E C w2 wz s i)) (fun iv _ => picks.length - (intOf iv).toNat)
    case atStart => exact ⟨0, s, Nat.zero_le _, rfl, HL0⟩
    case round =>
      obtain ⟨i, s, hi, rfl, HL⟩ := hrel
      clear HL0
      have y3 := HL.out.kp.cell Y3.out (fun e => e)
      by_cases hlt : i < picks.length
      · have e1 : decide ((i : Int) < (picks.length : Int)) = true := decide_eq_true (by omega)
        have wi : IntKind.i64.wrap ((i : Int) + 1) = (i : Int) + 1 := by rw [IntKind.wrap_i64]; omega
        have i0 : (0 : Int) ≤ (i : Int) := by omega
        obtain ⟨p, hp⟩ : ∃ p, picks[i]? = some p := ⟨_, List.getElem?_eq_getElem hlt⟩
        obtain ⟨pb0, pb1⟩ := HPK.out p (List.mem_of_getElem? hp)
        obtain ⟨ab, ao, ac, hve, hcl⟩ := Rd.cell HRK.out (by omega)
        simp only [Value.slice.injEq] at hve
        obtain ⟨rfl, -, rfl⟩ := hve
        have q0 : wr.cell? ⟨ab, ao + i, none⟩ = some (.int .i64 p) := HL.out.kp.cell (hcl i _ (by simp [hp])) (fun h => h)
        have HP := hid (rloop_pick HL.out n0 n6 (by omega) pb0 pb1)
        clear hcl hp pb0 pb1
        go_wp2_with fail
        refine HP.out.mono ?_
        rintro e w5 ⟨k', pc', ac', tk', d', s2, rfl, -, hl2, -⟩
        have HL2 := hid (hl2.quiet ((Keep.refl Nil w5).alloc (.cells #[.int .i64 k', .int .u8 pc', .bool ac', .bool tk', .bool d'] 31 (0, 0))))
        have HE := hid (rloop_events HL2.out (by omega))
        clear HP hl2 q0 y3
        go_wp2_with fail
        refine HE.out.mono ?_
        rintro e w6 ⟨ve, rfl, hr6, hk6⟩
        have HL3 := hid (HL2.out.quiet hk6)
        have HC := hid (gcheck_ok s2.l HL2.out.g.e.good ve hr6 (by have := HL2.out.g.len; have := HL2.out.st; omega))
        clear HE HL2 hr6 hk6
        go_wp2_with fail
        refine HC.out.mono ?_
        rintro e w7 ⟨rfl, hk7⟩
        have HL4 := hid (HL3.out.quiet hk7)
        clear HC HL3 hk7
        go_wp2
        go_roundw
        case rel => exact ⟨i + 1, s2, by omega, by go_num, HL4⟩
        case measure => simp [intOf]; omega
      · obtain rfl : i = picks.length := by omega
        have e1 : decide ((picks.length : Int) < (picks.length : Int)) = false := decide_eq_false (by omega)
        have HE := hid (rloop_events HL.out (by omega))
        have hlen : s.l.length ≤ 600 := by have := HL.out.g.len; have := HL.out.st; omega
        go_wp2_with fail
        refine HE.out.mono ?_
        rintro e w6 ⟨ve, rfl, hr6, hk6⟩
        obtain ⟨va, vc, rfl, -⟩ := id hr6
        have HR6 := hid hr6
        have HLE := hid (gleast_ok s.l HL.out.g.e.good _ hr6 (by omega))
        have HK6 := hid (HK2.out.trans (HL.out.kp.trans hk6 (fun _ _ e => e)) (fun _ _ e => e))
        have HGD := hid HL.out.g.e.good
        clear HE hr6 hk6 y3
        go_wp2_with fail
        refine HLE.out.mono ?_
        rintro e w7 ⟨la, lc, rfl, hr7, hk7⟩
        have HR7 := hid (row_rd hr7)
        have HE7 := hid (rd_keep HR6.out hk7 (fun _ _ e => e))
        have HK7 := hid (HK6.out.trans hk7 (fun _ _ e => e))
        have HLN := hid (leasts_len s.l)
        clear HLE hr7 hk7 HR6 HK6 HL HK2 HRK HPK Y3
        obtain ⟨l, hl⟩ : ∃ l, l = s.l := ⟨_, rfl⟩
        rw [← hl] at hlen HE7 HR7 HLN HGD
        obtain ⟨ls, hls⟩ : ∃ ls, ls = leasts l := ⟨_, rfl⟩
        have HLQ := hid hls
        rw [← hls] at HR7 HLN
        simp only [← hl, ← hls]
        clear hl hls
        go_wp2
        go_loopw [14, 15] (fun nv iv wz => ∃ i : Nat, i ≤ l.length ∧ iv = .int .i64 (i : Int) ∧ nv = .int .i64 ((wcnt l i : Nat) : Int) ∧ Keep Nil w7 wz) (fun _ iv _ => l.length - (intOf iv).toNat)
        case atStart => exact ⟨0, Nat.zero_le _, rfl, rfl, Keep.refl _ _⟩
        case round =>
          obtain ⟨i, hi, rfl, rfl, hkz⟩ := hrel
          have HKZ := hid hkz
          clear hkz
          by_cases hil : i < l.length
          · have e2 : decide ((i : Int) < (l.length : Int)) = true := decide_eq_true (by omega)
            have wi2 : IntKind.i64.wrap ((i : Int) + 1) = (i : Int) + 1 := by rw [IntKind.wrap_i64]; omega
            have i02 : (0 : Int) ≤ (i : Int) := by omega
            obtain ⟨x, hx⟩ : ∃ x, l[i]? = some x := ⟨_, List.getElem?_eq_getElem hil⟩
            obtain ⟨vb, vo, vc', hve, hcl⟩ := Rd.cell HE7.out (by omega)
            simp only [Value.slice.injEq] at hve
            obtain ⟨rfl, -, rfl⟩ := hve
            have cl : ∀ (W : World), Keep Nil w7 W → ∀ (k j : Nat) (y : EvR) (u : Value), l[k]? = some y → y.cells[j]? = some u → W.cell? ⟨vb, vo + k * 4 + j, none⟩ = some u := fun W hk k j y u hy hu => by rw [Nat.add_assoc]; exact hk.cell (hcl _ _ (evCells_at hy hu)) (fun h => h)
            have CL := hid cl
            have q2 : wr.cell? ⟨vb, vo + i * 4 + 2, none⟩ = some (.int .u8 x.kind) := cl wr HKZ.out i 2 x _ hx rfl
            have HX := hid hx
            clear hcl cl hx
            by_cases h3 : x.kind = 3
            · have b3 : (x.kind != 3) = false := by simp [h3]
              have wn : IntKind.i64.wrap (((wcnt l i : Nat) : Int) + 1) = ((wcnt l i : Nat) : Int) + 1 := by
                have : wcnt l i ≤ l.length := by unfold wcnt; exact Nat.le_trans (List.length_filter_le _ _) (by rw [List.length_take]; omega)
                rw [IntKind.wrap_i64]; omega
              have HN := hid (show ((wcnt l (i + 1) : Nat) : Int) = ((wcnt l i : Nat) : Int) + 1 by rw [wcnt_yes HX.out h3]; rfl)
              have H3 := hid h3
              clear h3
              go_wp2
              go_loopw [16] (fun kv wz => ∃ k : Nat, i < k ∧ k ≤ l.length ∧ kv = .int .i64 (k : Int) ∧ Keep Nil w7 wz ∧ Hid (∀ (j : Nat) (y : EvR), i < j → j < k → l[j]? = some y → ¬ (y.kind = 4 ∧ y.th = x.th))) (fun kv _ => l.length - (intOf kv).toNat)
              case atStart => exact ⟨i + 1, by omega, by omega, by go_num, HKZ.out, hid (fun j y h1 h2 => by omega)⟩
              case round =>
                obtain ⟨k, hik, hkl, rfl, hkz, HF⟩ := hrel
                have HKW := hid hkz
                clear hkz
                by_cases hkll : k < l.length
                · have e3 : decide ((k : Int) < (l.length : Int)) = true := decide_eq_true (by omega)
                  have wk : IntKind.i64.wrap ((k : Int) + 1) = (k : Int) + 1 := by rw [IntKind.wrap_i64]; omega
                  have k02 : (0 : Int) ≤ (k : Int) := by omega
                  obtain ⟨y, hy⟩ : ∃ y, l[k]? = some y := ⟨_, List.getElem?_eq_getElem hkll⟩
                  have r2 : wr.cell? ⟨vb, vo + k * 4 + 2, none⟩ = some (.int .u8 y.kind) := CL.out wr HKW.out k 2 y _ hy rfl
                  have r1 : wr.cell? ⟨vb, vo + k * 4 + 1, none⟩ = some (.int .i64 y.th) := CL.out wr HKW.out k 1 y _ hy rfl
                  have p1 : wr.cell? ⟨vb, vo + i * 4 + 1, none⟩ = some (.int .i64 x.th) := CL.out wr HKW.out i 1 x _ HX.out rfl
                  have HY := hid hy
                  clear hy
                  by_cases h4 : y.kind = 4 ∧ y.th = x.th
                  · have b4 : (y.kind == 4) = true := by simp [h4.1]
                    have b5 : (y.th == x.th) = true := by simp [h4.2]
                    obtain ⟨v, lv1, lv2, lv3⟩ := leasts_ok HGD.out HX.out H3.out hik HY.out h4.1 h4.2 HF.out
                    change (leasts l)[wcnt l i]? = some v at lv1
                    rw [← HLQ.out] at lv1
                    have lnl := lt_of_at lv1
                    obtain ⟨lb, lo, lc', hle, hlc⟩ := Rd.cell HR7.out (by omega)
                    simp only [Value.slice.injEq] at hle
                    obtain ⟨rfl, -, rfl⟩ := hle
                    have lcell := fun (W : World) (hk : Keep Nil w7 W) => hk.cell (hlc (wcnt l i) (.int .i64 v) (by simp [lv1])) (fun h => h)
                    have s0 := fun (W : World) (hk : Keep Nil w7 W) => CL.out W hk k 0 y _ HY.out rfl
                    have LC := hid lcell
                    have S0 := hid s0
                    clear hlc lcell s0 h4 lv1
                    go_wp2
                    go_quiet (fail)
                    obtain ⟨W, hW⟩ : ∃ W, W = wr.drewN nq := ⟨_, rfl⟩
                    rw [← hW]
                    have kW : Keep Nil wr W := by rw [hW]; exact (Keep.refl Nil wr).drewN nq
                    have t0 : W.cell? ⟨lb, lo + wcnt l i, none⟩ = some (.int .i64 v) := LC.out W (HKW.out.trans kW (fun _ _ e => e))
                    have t1 : W.cell? ⟨vb, vo + k * 4, none⟩ = some (.int .i64 y.step) := S0.out W (HKW.out.trans kW (fun _ _ e => e))
                    have g1 : decide ((ls.length : Int) ≤ ((wcnt l i : Nat) : Int)) = false := decide_eq_false (by omega)
                    have g2 : decide (v < 0) = false := decide_eq_false (by omega)
                    have g3 : decide (y.step < v) = false := decide_eq_false (by omega)
                    have g4 : decide (ls.length ≤ wcnt l i) = false := decide_eq_false (by omega)
                    have n02 : (0 : Int) ≤ ((wcnt l i : Nat) : Int) := by omega
                    have HKV := hid (HKW.out.trans kW (fun _ _ e => e))
                    clear hW kW r1 r2 p1 LC S0 lv2 lv3
                    go_wp2
                    go_quiet (fail)
                    have HKX := hid (HKV.out.trans ((Keep.refl Nil W).drewN nq) (fun _ _ e => e))
                    go_wp2
                    go_roundw
                    case rel => exact ⟨i + 1, by omega, by go_num, by rw [HN.out], HKX.out⟩
                    case measure => simp [intOf]; omega
                  · have HF2 := hid (show ∀ (j : Nat) (z : EvR), i < j → j < k + 1 → l[j]? = some z → ¬ (z.kind = 4 ∧ z.th = x.th) from fun j z h1 h2 h5 => by
                      by_cases e : j = k
                      · subst e; rw [HY.out] at h5; cases h5; exact h4
                      · exact HF.out j z h1 (by omega) h5)
                    by_cases h5 : y.kind = 4
                    · have b4 : (y.kind == 4) = true := by simp [h5]
                      have b5 : (y.th == x.th) = false := by simp; exact fun e => h4 ⟨h5, e⟩
                      clear h4 h5
                      go_wp2
                      go_quiet (fail)
                      have HKX := hid (HKW.out.trans ((Keep.refl Nil wr).drewN nq) (fun _ _ e => e))
                      go_wp2
                      go_roundw
                      case rel => exact ⟨k + 1, by omega, by omega, by go_num, HKX.out, HF2⟩
                      case measure => simp [intOf]; omega
                    · have b4 : (y.kind == 4) = false := by simp [h5]
                      clear h4 h5
                      go_wp2
                      go_quiet (fail)
                      have HKX := hid (HKW.out.trans ((Keep.refl Nil wr).drewN nq) (fun _ _ e => e))
                      go_wp2
                      go_roundw
                      case rel => exact ⟨k + 1, by omega, by omega, by go_num, HKX.out, HF2⟩
                      case measure => simp [intOf]; omega
                · obtain rfl : k = l.length := by omega
                  have e3 : decide ((l.length : Int) < (l.length : Int)) = false := decide_eq_false (by omega)
                  go_wp2
                  go_roundw
                  case rel => exact ⟨i + 1, by omega, by go_num, by rw [HN.out], HKW.out⟩
                  case measure => simp [intOf]; omega
            · have b3 : (x.kind != 3) = true := by simp [h3]
              have HN := hid (show ((wcnt l (i + 1) : Nat) : Int) = ((wcnt l i : Nat) : Int) by rw [wcnt_no HX.out h3])
              clear h3
              go_wp2
              go_roundw
              case rel => exact ⟨i + 1, by omega, by go_num, by rw [HN.out], HKZ.out⟩
              case measure => simp [intOf]; omega
          · obtain rfl : i = l.length := by omega
            have e2 : decide ((l.length : Int) < (l.length : Int)) = false := decide_eq_false (by omega)
            have HB := hid (show (((wcnt l l.length : Nat) : Int) == (ls.length : Int)) = true by
              rw [HLN.out]
              unfold wcnt
              rw [List.take_length]
              simp)
            have b9 := HB.out
            go_wp2
            go_ret
            exact ⟨rfl, HK7.out.trans HKZ.out (fun _ _ e => e)⟩
end Go.Proofs.YtldjlcdccnnogaaGreat
