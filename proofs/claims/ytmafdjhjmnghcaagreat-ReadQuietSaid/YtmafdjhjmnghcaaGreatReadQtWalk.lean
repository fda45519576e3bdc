/- ReadQuiet: if nothing changes, a read returns what the words say, within four steps: the walk. -/
import Derived.Test.YtmafdjhjmnghcaaGreatReadShown
import Derived.Test.YtmafdjhjmnghcaaGreatReadNm0
import Derived.Test.YtmafdjhjmnghcaaGreatWdOk
import Derived.Test.YtmafdjhjmnghcaaGreatOpenRArg
set_option linter.unusedVariables false
set_option linter.unusedSimpArgs false
namespace Go.Proofs.YtmafdjhjmnghcaaGreat
open Go.RowKit Go.Lf
attribute [local go_sem] fld0 fld1 fld2 fld3 fld4 fld5 fld6 fld7 fld8 fld9 fldc fldl
section
set_option maxRecDepth 100000 in
set_option maxHeartbeats 8000000 in
theorem walk_rquiet (w : World) (z : ConfV) (hz : ConfArg w z) (x : RArg) (hx : x.wf) (s : Int) (bs : (Lit.int .u64 s).wf = true) (value : Int) (bv : (Lit.int .u64 value).wf = true) (alt : Int) (ba : (Lit.int .u64 alt).wf = true)
    (v : Value) (ds : List Int) (rd : Rd w 1 v ds.length (ds.map (Value.int .u64))) (bd : ∀ n ∈ ds, (Lit.int .u64 n).wf = true) (ml : ds.length ≤ maxLen) :
    Calls Tryz.prog 7 #[z.val, .agg x.cells.toArray, .int .u64 s, .int .u64 value, .int .u64 alt, v] w fun e w' => e = .returned (.bool true) ∧ Keep Nil w w' := by
  obtain ⟨th, tw, tr⟩ := x
  obtain ⟨b1, b2, b3⟩ := hx
  obtain ⟨th0, th1⟩ := i64_wf b1
  obtain ⟨tw0, tw1⟩ := i64_wf b2
  obtain ⟨tr0, tr1⟩ := i64_wf b3
  obtain ⟨s0, s1⟩ := u64_wf bs
  obtain ⟨v0, v1⟩ := u64_wf bv
  obtain ⟨al0, al1⟩ := u64_wf ba
  obtain ⟨va, vc, rfl, -, -⟩ := id rd
  have HRD := hid rd
  have HBD := hid (fun n hn => u64_wf (bd n hn))
  have HML := hid ml
  have HZ := hid hz
  have HC0 := hid z.ok
  have m0 : 0 ≤ th % 64 := Int.emod_nonneg _ (by decide)
  have m1 : th % 64 < 64 := Int.emod_lt_of_pos _ (by decide)
  have r0 : 0 ≤ tr % 256 := Int.emod_nonneg _ (by decide)
  have r1 : tr % 256 ≤ 255 := by omega
  clear hz bs bv ba rd bd ml b1 b2 b3
  show Calls Tryz.prog 7 #[z.val, .agg #[.int .i64 th, .int .i64 tw, .int .i64 tr], .int .u64 s, .int .u64 value, .int .u64 alt, .slice va ds.length vc] w fun e w' => e = .returned (.bool true) ∧ Keep Nil w w'
  unfold ConfV.val
  go_enter Tryz.func7, Tryz.ntmps7
  obtain ⟨wb, hwb⟩ : ∃ wb, wb = (w.alloc (.cells #[.int .i64 z.th, .int .i64 z.sl, .int .u8 z.eng, .int .i64 z.bk, .int .u8 z.k, .int .i64 z.n, .slice z.a z.cuts.length z.cp, .int .i64 z.t1, .int .i64 z.t2, .int .i64 z.t3, .int .i64 z.t4, .int .i64 z.t5, .int .i64 z.t6, .int .i64 z.lk, .int .i64 z.tr, .int .i64 z.ba] 45)).alloc (.cells #[.int .i64 th, .int .i64 tw, .int .i64 tr] 78) := ⟨_, rfl⟩
  have hb0 := heap_alloc_new (w.alloc (.cells #[.int .i64 z.th, .int .i64 z.sl, .int .u8 z.eng, .int .i64 z.bk, .int .u8 z.k, .int .i64 z.n, .slice z.a z.cuts.length z.cp, .int .i64 z.t1, .int .i64 z.t2, .int .i64 z.t3, .int .i64 z.t4, .int .i64 z.t5, .int .i64 z.t6, .int .i64 z.lk, .int .i64 z.tr, .int .i64 z.ba] 45)) (.cells #[.int .i64 th, .int .i64 tw, .int .i64 tr] 78)
  rw [World.size_alloc, ← hwb] at hb0
  have HB0 := hid hb0
  have HKW := hid (show Keep Nil w wb from hwb ▸ ((Keep.refl Nil w).alloc _).alloc _)
  go_wp2_with fail
  rw [← hwb]
  clear hb0 hwb
  refine (small_ok z (HZ.out.keep HKW.out)).mono ?_
  rintro e w1 ⟨a1, cp1, rfl, hr1, hk1, -⟩
  have HR1 := hid hr1
  have HK1 := hid hk1
  clear hr1 hk1
  go_wp2_with fail
  refine (small_new z HR1.out).mono ?_
  rintro e w2 hnew
  obtain ⟨b, mb, rfl, hs⟩ := SW.new HK1.out hnew
  obtain ⟨V1, hV1⟩ : ∃ V : Value, V = cfgV z.c (z.t1 % 7).toNat (z.t2 % 7).toNat (z.t3 % 7).toNat (z.t4 % 7).toNat (z.t5 % 7).toNat (z.t6 % 7).toNat a1 cp1 := ⟨_, rfl⟩
  rw [← hV1]
  obtain ⟨c, hc⟩ : ∃ c, c = z.c := ⟨_, rfl⟩
  rw [← hc] at hs HC0
  obtain ⟨ws0, hw0⟩ : ∃ ws0, ws0 = ints c.init := ⟨_, rfl⟩
  have HWD0 := hid (show WdOk c ws0 from hw0 ▸ WdOk.init HC0.out)
  rw [← hw0] at hs
  have HC := hid HC0.out
  have HS := hid hs
  clear hV1 hnew hs HR1 hc hw0 HC0 HK1 HZ
  go_wp2_with fail
  refine (sw_layout HS.out).mono ?_
  rintro e w3 ⟨L, rfl, hl, rfl⟩
  have HLAY := hid hl
  clear hl
  have hnt := HC.out.nT
  go_wp2_with fail
  refine (towers_ok HLAY.out).mono ?_
  rintro e w3 ⟨rfl, rfl⟩
  clear HLAY
  by_cases hz : c.nT = 0
  · have dz : (((c.nT : Nat) : Int) == 0) = true := beq_iff_eq.2 (by omega)
    clear hnt hz
    go_wp2_with fail
    refine (lawake_ok).mono ?_
    rintro e w4 ⟨rfl, hk⟩
    have HK9 := hid (HKW.out.trans (HS.out.own.trans hk (fun _ _ h => h)) (fun _ _ h => h))
    clear hk
    go_wp2
    go_ret
    exact ⟨rfl, HK9.out⟩
  · have dz : (((c.nT : Nat) : Int) == 0) = false := beq_eq_false_iff_ne.2 (by omega)
    have hm0 : 0 ≤ tw % (c.nT : Int) := Int.emod_nonneg _ (by omega)
    have hm1 : tw % (c.nT : Int) < (c.nT : Int) := Int.emod_lt_of_pos _ (by omega)
    obtain ⟨i, hi⟩ : ∃ i : Nat, tw % (c.nT : Int) = (i : Int) := ⟨(tw % (c.nT : Int)).toNat, by omega⟩
    have HI := hid (show i < c.nT by omega)
    have HIT := hid (show 1 + (i : Int) ≤ (c.nT : Int) by omega)
    have HMOD := hid (show ∀ W : World, Calls Tryz.prog 29 #[.int .i64 tw, .int .i64 (c.nT : Int)] W fun e w' => e = .returned (.int .i64 (i : Int)) ∧ W = w' from fun W => by
      have := mod_ok tw (c.nT : Int) tw0 tw1 (by omega) (by omega) W
      rw [hi] at this
      exact this)
    have wi : IntKind.i64.wrap (1 + (i : Int)) = 1 + (i : Int) := by rw [IntKind.wrap_i64]; have := HI.out; omega
    obtain ⟨hT1, hT2⟩ := c.tow_rng HI.out
    have htws := HC.out.towers
    obtain ⟨-, -, -, -, hq1, hq2, hq3, hq4, hq5⟩ := plc_lt c
    have HTR := hid (And.intro hT1 hT2)
    have HDW := hid (show c.descs + c.lk ≤ c.words ∧ c.descs ≤ 4096 by omega)
    have HLK := hid HC.out.lk2
    clear hnt hz hm0 hm1 hi hT1 hT2 htws hq1 hq2 hq3 hq4 hq5
    have KD := hid ((Keep.refl Nil w2).drew)
    have x1 : w2.cell? ⟨w.heap.size + 1, 1, none⟩ = some (.int .i64 tw) := by rw [cell_of (HS.out.own.at HB0.out (fun h => h))]; rfl
    go_wp2_with fail
    go_region_held3 (fun w' => w'.cell? ⟨w.heap.size + 1, 1, none⟩ = some (.int .i64 tw)) (go_keep)
      (first
        | (go_at_call 22; (with_reducible refine (sw_layout (HS.out.quiet KD.out)).mono ?_); rintro e w9 ⟨L, rfl, hl, rfl⟩; have HLAY := hid hl; clear hl)
        | (go_at_call 42; (with_reducible refine (towers_ok HLAY.out).mono ?_); rintro e w9 ⟨rfl, rfl⟩)
        | (go_at_call 29; (with_reducible refine (HMOD.out _).mono ?_); rintro e w9 ⟨rfl, rfl⟩)
        | (go_at_call 24; (with_reducible refine (sw_mem (HS.out.quiet KD.out)).mono ?_); rintro e w9 ⟨rfl, rfl⟩)
        | (go_at_call 23; (with_reducible refine (places_ok HLAY.out).mono ?_); rintro e w10 ⟨rfl, hk⟩; have HS5 := hid (HS.out.quiet (KD.out.trans hk (fun _ _ h => h))); have x10 : w10.cell? ⟨w.heap.size + 1, 1, none⟩ = some (.int .i64 tw) := (by rw [cell_of (HS5.out.own.at HB0.out (fun h => h))]; rfl); clear hk))
    all_goals
      clear x1 KD HLAY HMOD
      try clear x10
      go_wp2_with fail
      refine (word_ok HS5.out HC.out HI.out (1 + (i : Int)) 1 ((c.tow i : Int) + 1) (by omega) (by decide) (by decide) rfl).mono ?_
      rintro e w11 ⟨rfl, rfl⟩
      go_wp2_with fail
      refine (sw_put HS5.out HWD0.out 0 _ value (by decide) (by decide) (c.tow i + 1) (by omega) (by have := HTR.out; omega) v0 v1 (by simp)).mono ?_
      rintro e w11 ⟨rfl, log1, hl1, hs1, hwd1⟩
      generalize ws0.set (c.tow i + 1) value = ws1 at hs1 hwd1
      have HS6 := hid hs1
      have HWD1 := hid hwd1
      have HL1 := hid (show log1.length = 1 from hl1)
      clear hs1 hwd1 hl1 HS5 HWD0
      go_wp2_with fail
      refine (word_ok HS6.out HC.out HI.out (1 + (i : Int)) 2 ((c.tow i : Int) + 2) (by omega) (by decide) (by decide) rfl).mono ?_
      rintro e w12 ⟨rfl, rfl⟩
      go_wp2_with fail
      refine (sw_put HS6.out HWD1.out 0 _ alt (by decide) (by decide) (c.tow i + 2) (by omega) (by have := HTR.out; omega) al0 al1 (by have := HL1.out; omega)).mono ?_
      rintro e w12 ⟨rfl, log2, hl2, hs2, hwd2⟩
      generalize ws1.set (c.tow i + 2) alt = ws2 at hs2 hwd2
      have HS7 := hid hs2
      have HWD2 := hid hwd2
      have HL2 := hid (show log2.length = 2 by have := HL1.out; omega)
      clear hs2 hwd2 hl2 HS6 HWD1 HL1
      go_wp2_with fail
      refine (word_ok HS7.out HC.out HI.out (1 + (i : Int)) 4 ((c.tow i : Int) + 4) (by omega) (by decide) (by decide) rfl).mono ?_
      rintro e w13 ⟨rfl, rfl⟩
      go_wp2_with fail
      refine (sw_put HS7.out HWD2.out 0 _ s (by decide) (by decide) (c.tow i + 4) (by omega) (by have := HTR.out; omega) s0 s1 (by have := HL2.out; omega)).mono ?_
      rintro e w13 ⟨rfl, log3, hl3, hs3, hwd3⟩
      generalize ws2.set (c.tow i + 4) s = ws3 at hs3 hwd3
      have HS9 := hid hs3
      have HWD3 := hid hwd3
      have HL3 := hid (show log3.length = 3 by have := HL2.out; omega)
      clear hs3 hwd3 hl3 HS7 HWD2 HL2
      go_wp2
      go_loopw [18] (fun x wj => ∃ j : Nat, j ≤ c.lk ∧ x = .int .i64 j ∧ ∃ (ws : List Int) (log : List Acc), SW wb wj c b mb ws log ∧ WdOk c ws ∧ log.length = 3 + j) (fun x _ => c.lk - (intOf x).toNat)
      case atStart => exact ⟨0, Nat.zero_le _, rfl, ws3, log3, HS9.out, HWD3.out, by rw [HL3.out]⟩
      case round =>
        obtain ⟨j, hj, rfl, ws, log, hs, hwd, hl⟩ := hrel
        have HS8 := hid hs
        have HWD := hid hwd
        have HJ := hid hj
        have HL8 := hid (show log.length ≤ 19 by have := HLK.out; omega)
        have HL := hid hl
        clear hs hwd hl HS9 HWD3 HL3
        by_cases hlt : j < ds.length
        · have d1 : decide ((j : Int) < (ds.length : Int)) = true := decide_eq_true (by omega)
          by_cases hlk : j < c.lk
          · have d2 : decide ((j : Int) < (c.lk : Int)) = true := decide_eq_true (by omega)
            have e2 : decide (j < c.lk) = true := decide_eq_true hlk
            have e1 : decide (j < ds.length) = true := decide_eq_true hlt
            have wj1 : IntKind.i64.wrap ((j : Int) + 1) = (j : Int) + 1 := by rw [IntKind.wrap_i64]; have := HLK.out; omega
            have wja : IntKind.i64.wrap ((c.descs : Int) + (j : Int)) = (c.descs : Int) + (j : Int) := by rw [IntKind.wrap_i64]; have := HLK.out; have := HDW.out; omega
            obtain ⟨y, hy⟩ : ∃ y, ds[j]? = some y := ⟨_, List.getElem?_eq_getElem hlt⟩
            have hyb := HBD.out y (List.mem_of_getElem? hy)
            have j0 : (0 : Int) ≤ (j : Int) := by omega
            have j1 : (j : Int) < (ds.length : Int) := by omega
            have HLT := hid (And.intro hlt hlk)
            have hml := HML.out
            obtain ⟨bb, off, cc, hv, hcell⟩ := Rd.cell HRD.out (by omega)
            simp only [Value.slice.injEq] at hv
            obtain ⟨hv1, -, hv2⟩ := hv
            have HCX := hid (hcell j (.int .u64 y) (by rw [List.getElem?_map, hy]; rfl))
            clear hcell hj hy hml
            subst hv1 hv2
            go_wp2_with fail
            refine (sw_config HS8.out HC.out).mono ?_
            rintro e w4 ⟨t1, t2, t3, t4, t5, t6, a, cp, rfl, hk⟩
            have HS10 := hid (HS8.out.quiet hk)
            have cx : w4.cell? ⟨bb, off + j, none⟩ = some (.int .u64 y) := HS10.out.own.cell (HKW.out.cell HCX.out (fun h => h)) (fun h => h)
            clear hk HS8
            go_wp2_with fail
            refine (sw_put HS10.out HWD.out 0 _ y (by decide) (by decide) (c.descs + j) (by omega) (by have := HDW.out; have := HLT.out; omega) hyb.1 hyb.2 (by have := HL8.out; omega)).mono ?_
            rintro e w5 ⟨rfl, log9, hl9, hs9, hwd9⟩
            have HS11 := hid hs9
            have HWD9 := hid hwd9
            have HL9 := hid (show log9.length = 3 + (j + 1) by have := HL.out; omega)
            clear hs9 hwd9 hl9 cx
            go_wp2
            go_roundw
            case rel => exact ⟨j + 1, by have := HLT.out; omega, by go_num, _, log9, HS11.out, HWD9.out, HL9.out⟩
            case measure => have := HLT.out; simp [intOf]; omega
          · have d2 : decide ((j : Int) < (c.lk : Int)) = false := decide_eq_false (by omega)
            have e2 : decide (j < c.lk) = false := decide_eq_false hlk
            have e1 : decide (j < ds.length) = true := decide_eq_true hlt
            clear hj
            go_wp2_with fail
            refine (sw_config HS8.out HC.out).mono ?_
            rintro e w4 ⟨t1, t2, t3, t4, t5, t6, a, cp, rfl, hk⟩
            have HS8 := hid (HS8.out.quiet hk)
            clear hk
            have x0 : w4.cell? ⟨w.heap.size + 1, 0, none⟩ = some (.int .i64 th) := by rw [cell_of (HS8.out.own.at HB0.out (fun h => h))]; rfl
            have x2 : w4.cell? ⟨w.heap.size + 1, 2, none⟩ = some (.int .i64 tr) := by rw [cell_of (HS8.out.own.at HB0.out (fun h => h))]; rfl
            have KD := hid ((Keep.refl Nil w4).drew)
            go_wp2_with fail
            go_region_held3 (fun w' => w'.cell? ⟨w.heap.size + 1, 0, none⟩ = some (.int .i64 th) ∧ w'.cell? ⟨w.heap.size + 1, 2, none⟩ = some (.int .i64 tr)) (go_keep)
              (first
                | (go_at_call 29; (with_reducible refine (mod_ok th 64 th0 th1 (by decide) (by decide) _).mono ?_); rintro e w9 ⟨rfl, rfl⟩)
                | (go_at_call 29; (with_reducible refine (mod_ok tr 256 tr0 tr1 (by decide) (by decide) _).mono ?_); rintro e w9 ⟨rfl, rfl⟩)
                | (go_at_call 33; (with_reducible refine (sw_rnew (HS8.out.quiet KD.out) HC.out (th % 64) (1 + (i : Int)) (tr % 256) m0 m1 r0 r1 (by omega) HIT.out).mono ?_); rintro e w10 ⟨he, hrw⟩; obtain ⟨r, hr⟩ : ∃ r, r = w4.drew.heap.size := ⟨_, rfl⟩; rw [← hr] at he hrw; subst he; have y0 : w10.cell? ⟨w.heap.size + 1, 0, none⟩ = some (.int .i64 th) := (by rw [cell_of (hrw.own.at HB0.out (fun h => h))]; rfl); have y2 : w10.cell? ⟨w.heap.size + 1, 2, none⟩ = some (.int .i64 tr) := (by rw [cell_of (hrw.own.at HB0.out (fun h => h))]; rfl); have HRW := hid hrw; clear hrw hr))
            all_goals
              obtain ⟨n, s', hrun, hn4, hfl, her, hen, hsh⟩ := quiet_run (lk := c.lk) (T := c.tow i) (D := c.descs) (ws := ws) (th % 64) (1 + (i : Int)) (tr % 256)
              have HRUN := hid hrun
              have HSH := hid hsh
              have HEND := hid (And.intro hfl (And.intro her hen))
              have d4 : decide ((n : Int) ≤ 4) = true := decide_eq_true (by omega)
              clear hrun hsh hfl her hen hn4 x0 x2
              try clear y0 y2
              go_wp2_with fail
              refine (wrun_ok (i := i) HRW.out ⟨HC.out, HI.out, by show 1 + (i : Int) = _; omega, m0, m1, HWD.out.wf, Nat.le_of_eq HWD.out.len.symm, by have := HL8.out; omega⟩ (init_good _ _ _ _) (by show (0 : Int) + 20 < 1000000; decide) HRUN.out).mono ?_
              rintro e w11 ⟨rfl, log2, hl2, hrw2⟩
              have HRW2 := hid hrw2
              clear hrw2 hl2 HRW
              go_wp2_with fail
              refine (rres_ok HRW2.out.at_ HEND.out.2.2).mono ?_
              rintro e w12 ⟨rfl, hk⟩
              rw [HEND.out.1, HEND.out.2.1]
              have HRW3 := hid (HRW2.out.quiet hk)
              clear hk HRW2
              go_wp2_with fail
              refine (shown_ok HRW3.out.sw HC.out HI.out (Nat.le_of_eq HWD.out.len.symm) HWD.out.wf (1 + (i : Int)) (by omega) s'.value s'.present HSH.out.symm).mono ?_
              rintro e w13 ⟨rfl, hk⟩
              have HK := hid (HRW3.out.own.trans hk (fun _ _ h => h))
              clear hk HRW3
              obtain ⟨v', hv'⟩ : ∃ v', v' = s'.value := ⟨_, rfl⟩
              obtain ⟨p', hp'⟩ : ∃ p', p' = s'.present := ⟨_, rfl⟩
              rw [← hv', ← hp']
              have bv : (v' == v') = true := beq_self_eq_true v'
              have bp : (p' == p') = true := beq_self_eq_true p'
              clear hv' hp'
              go_wp2_with fail
              refine (lawake_ok).mono ?_
              rintro e w14 ⟨rfl, hk⟩
              have HK9 := hid (HKW.out.trans (HK.out.trans hk (fun _ _ h => h)) (fun _ _ h => h))
              clear hk
              go_wp2
              go_ret
              exact ⟨rfl, HK9.out⟩
        · have d1 : decide ((j : Int) < (ds.length : Int)) = false := decide_eq_false (by omega)
          have e1 : decide (j < ds.length) = false := decide_eq_false hlt
          clear hj
          have x0 : wr.cell? ⟨w.heap.size + 1, 0, none⟩ = some (.int .i64 th) := by rw [cell_of (HS8.out.own.at HB0.out (fun h => h))]; rfl
          have x2 : wr.cell? ⟨w.heap.size + 1, 2, none⟩ = some (.int .i64 tr) := by rw [cell_of (HS8.out.own.at HB0.out (fun h => h))]; rfl
          have KD := hid ((Keep.refl Nil wr).drew)
          go_wp2_with fail
          go_region_held3 (fun w' => w'.cell? ⟨w.heap.size + 1, 0, none⟩ = some (.int .i64 th) ∧ w'.cell? ⟨w.heap.size + 1, 2, none⟩ = some (.int .i64 tr)) (go_keep)
            (first
              | (go_at_call 29; (with_reducible refine (mod_ok th 64 th0 th1 (by decide) (by decide) _).mono ?_); rintro e w9 ⟨rfl, rfl⟩)
              | (go_at_call 29; (with_reducible refine (mod_ok tr 256 tr0 tr1 (by decide) (by decide) _).mono ?_); rintro e w9 ⟨rfl, rfl⟩)
              | (go_at_call 33; (with_reducible refine (sw_rnew (HS8.out.quiet KD.out) HC.out (th % 64) (1 + (i : Int)) (tr % 256) m0 m1 r0 r1 (by omega) HIT.out).mono ?_); rintro e w10 ⟨he, hrw⟩; obtain ⟨r, hr⟩ : ∃ r, r = wr.drew.heap.size := ⟨_, rfl⟩; rw [← hr] at he hrw; subst he; have y0 : w10.cell? ⟨w.heap.size + 1, 0, none⟩ = some (.int .i64 th) := (by rw [cell_of (hrw.own.at HB0.out (fun h => h))]; rfl); have y2 : w10.cell? ⟨w.heap.size + 1, 2, none⟩ = some (.int .i64 tr) := (by rw [cell_of (hrw.own.at HB0.out (fun h => h))]; rfl); have HRW := hid hrw; clear hrw hr))
          all_goals
            obtain ⟨n, s', hrun, hn4, hfl, her, hen, hsh⟩ := quiet_run (lk := c.lk) (T := c.tow i) (D := c.descs) (ws := ws) (th % 64) (1 + (i : Int)) (tr % 256)
            have HRUN := hid hrun
            have HSH := hid hsh
            have HEND := hid (And.intro hfl (And.intro her hen))
            have d4 : decide ((n : Int) ≤ 4) = true := decide_eq_true (by omega)
            clear hrun hsh hfl her hen hn4 x0 x2
            try clear y0 y2
            go_wp2_with fail
            refine (wrun_ok (i := i) HRW.out ⟨HC.out, HI.out, by show 1 + (i : Int) = _; omega, m0, m1, HWD.out.wf, Nat.le_of_eq HWD.out.len.symm, by have := HL8.out; omega⟩ (init_good _ _ _ _) (by show (0 : Int) + 20 < 1000000; decide) HRUN.out).mono ?_
            rintro e w11 ⟨rfl, log2, hl2, hrw2⟩
            have HRW2 := hid hrw2
            clear hrw2 hl2 HRW
            go_wp2_with fail
            refine (rres_ok HRW2.out.at_ HEND.out.2.2).mono ?_
            rintro e w12 ⟨rfl, hk⟩
            rw [HEND.out.1, HEND.out.2.1]
            have HRW3 := hid (HRW2.out.quiet hk)
            clear hk HRW2
            go_wp2_with fail
            refine (shown_ok HRW3.out.sw HC.out HI.out (Nat.le_of_eq HWD.out.len.symm) HWD.out.wf (1 + (i : Int)) (by omega) s'.value s'.present HSH.out.symm).mono ?_
            rintro e w13 ⟨rfl, hk⟩
            have HK := hid (HRW3.out.own.trans hk (fun _ _ h => h))
            clear hk HRW3
            obtain ⟨v', hv'⟩ : ∃ v', v' = s'.value := ⟨_, rfl⟩
            obtain ⟨p', hp'⟩ : ∃ p', p' = s'.present := ⟨_, rfl⟩
            rw [← hv', ← hp']
            have bv : (v' == v') = true := beq_self_eq_true v'
            have bp : (p' == p') = true := beq_self_eq_true p'
            clear hv' hp'
            go_wp2_with fail
            refine (lawake_ok).mono ?_
            rintro e w14 ⟨rfl, hk⟩
            have HK9 := hid (HKW.out.trans (HK.out.trans hk (fun _ _ h => h)) (fun _ _ h => h))
            clear hk
            go_wp2
            go_ret
            exact ⟨rfl, HK9.out⟩
end
end Go.Proofs.YtmafdjhjmnghcaaGreat
