/- RangesQuiet: one after another ranges are locked exactly if nothing overlaps and an entry is free: the walk. -/
import Derived.Test.YtmafdjhjmnghcaaGreatRngQS
import Derived.Test.YtmafdjhjmnghcaaGreatRngNm
import Derived.Deep.DeepCutAuto
set_option linter.unusedVariables false
set_option linter.unusedSimpArgs false
namespace Go.Proofs.YtmafdjhjmnghcaaGreat
open Go.RowKit Go.Lf
attribute [local go_sem] fld0 fld1 fld2 fld3 fld4 fld5 fld6 fld7 fld8 fld9 fldc fldl
section
theorem spanCells_at {l : List SpanV} {k : Nat} {x : SpanV} (hx : l[k]? = some x) {j : Nat} (hj : j < 2) : (spanCells l)[k * 2 + j]? = x.cells[j]? := flatn_at SpanV.cells 2 (fun _ => rfl) l hx hj
set_option maxRecDepth 100000 in
set_option maxHeartbeats 16000000 in
theorem walk_rgquiet (w : World) (z : ConfV) (hz : ConfArg w z) (vs : Value) (ss : List SpanV) (rds : Rd w 2 vs ss.length (spanCells ss)) (bs : ∀ y ∈ ss, SpanV.wf y) (ms : ss.length ≤ maxLen) (tr : Int) (bt : (Lit.int .i64 tr).wf = true)
    (vd : Value) (ds : List Int) (rdd : Rd w 1 vd ds.length (ds.map (Value.int .i64))) (bd : ∀ n ∈ ds, (Lit.int .i64 n).wf = true) (md : ds.length ≤ maxLen) :
    Calls Tryz.prog 5 #[z.val, vs, .int .i64 tr, vd] w fun e w' => e = .returned (.bool true) ∧ Keep Nil w w' := by
  obtain ⟨tr0, tr1⟩ := i64_wf bt
  obtain ⟨sa, sc, rfl, -, -⟩ := id rds
  obtain ⟨da, dc, rfl, -, -⟩ := id rdd
  have HRS := hid rds
  have HRD := hid rdd
  have HBS := hid bs
  have HBD := hid bd
  have HML := hid (And.intro ms md)
  have HZ := hid hz
  have HC0 := hid z.ok
  clear hz bt rds rdd bs bd ms md
  unfold ConfV.val
  go_enter Tryz.func5, Tryz.ntmps5
  go_wp2_with fail
  refine (small_ok z (HZ.out.keep ((Keep.refl Nil w).alloc _))).mono ?_
  rintro e w1 ⟨a1, cp1, rfl, hr1, hk1, -⟩
  have hb1 := hk1.at (heap_alloc_new w _) (fun h => h)
  have HB1 := hid hb1
  have HR1 := hid hr1
  have HK1 := hid (show Keep Nil w w1 from ((Keep.refl Nil w).alloc _).trans hk1 (fun _ _ h => h))
  clear hb1 hr1 hk1
  go_wp2_with fail
  refine (small_new z HR1.out).mono ?_
  rintro e w2 hnew
  have hkn : Keep Nil w1 w2 := by
    obtain ⟨_, _, _, _, _, h, _⟩ := hnew
    exact h
  have hb2 := hkn.at HB1.out (fun h => h)
  obtain ⟨b, mb, rfl, hs⟩ := SW.new HK1.out hnew
  obtain ⟨q0, q1, q2, q3, q4, q5, q6, q7, q8, q9, q10, q11, q12, q13, q14, q15⟩ := bx16 hb2
  have hz2 : w.heap.size < w2.heap.size := lt_of_block hb2
  have HS := hid hs
  obtain ⟨V1, hV1⟩ : ∃ V : Value, V = cfgV z.c (z.t1 % 7).toNat (z.t2 % 7).toNat (z.t3 % 7).toNat (z.t4 % 7).toNat (z.t5 % 7).toNat (z.t6 % 7).toNat a1 cp1 := ⟨_, rfl⟩
  rw [← hV1]
  clear hV1 hnew hs hb2 HB1 HR1 hkn
  go_wp2_with fail
  refine (small_ok z (HZ.out.keep HS.out.own)).mono ?_
  rintro e w3 ⟨a2, cp2, rfl, -, hk3, -⟩
  have HS3 := hid (HS.out.quiet hk3)
  clear q0 q1 q2 q3 q4 q5 q6 q7 q8 q9 q10 q11 q12 q13 q14 q15 hk3 HS hz2
  obtain ⟨c, hc⟩ : ∃ c, c = z.c := ⟨_, rfl⟩
  rw [← hc] at HS3 HC0 ⊢
  have HC := hid HC0.out
  have HLL := hid (show 1 ≤ c.lk ∧ c.lk ≤ 16 from ⟨HC.out.lk1, HC.out.lk2⟩)
  clear hc HC0 HZ HK1
  go_wp2_with fail
  refine (mod_ok tr 6 tr0 tr1 (by decide) (by decide) _).mono ?_
  rintro e w4 ⟨rfl, rfl⟩
  have hmd0 : 0 ≤ tr % 6 := Int.emod_nonneg _ (by decide)
  have hmd1 : tr % 6 < 6 := Int.emod_lt_of_pos _ (by decide)
  obtain ⟨jm, hjm⟩ : ∃ jm : Nat, tr % 6 = (jm : Int) := ⟨(tr % 6).toNat, by omega⟩
  obtain ⟨mo, hmo⟩ : ∃ mo : Int, mo = 1 + (jm : Int) := ⟨_, rfl⟩
  have wmo : IntKind.i64.wrap (1 + (jm : Int)) = 1 + (jm : Int) := by rw [IntKind.wrap_i64]; omega
  have HJM := hid (show jm ≤ 5 ∧ mo = (jm + 1 : Nat) by omega)
  have HMO := hid (show 1 ≤ mo ∧ mo ≤ 6 by omega)
  have mk1 := make_span c.lk (by have := HLL.out; omega)
  have mk2 := make_bool c.lk (by have := HLL.out; omega)
  obtain ⟨V2, hV2⟩ : ∃ V : Value, V = cfgV c (z.t1 % 7).toNat (z.t2 % 7).toNat (z.t3 % 7).toNat (z.t4 % 7).toNat (z.t5 % 7).toNat (z.t6 % 7).toNat a2 cp2 := ⟨_, rfl⟩
  obtain ⟨W0, hW0⟩ : ∃ W0, W0 = (w3.alloc (.cells (spnCells (List.replicate c.lk (0, 0))).toArray 28)).alloc (.cells (Array.replicate c.lk (Value.bool false)) 4) := ⟨_, rfl⟩
  obtain ⟨hb, hhb⟩ : ∃ hb, hb = w3.heap.size := ⟨_, rfl⟩
  obtain ⟨ub, hub⟩ : ∃ ub, ub = w3.heap.size + 1 := ⟨_, rfl⟩
  have HHB0 := hid (show W0.heap[hb]? = some (.cells (spnCells (List.replicate c.lk (0, 0))).toArray 28 (0, 0)) from by rw [hW0, hhb]; exact alloc_old (heap_alloc_new w3 _) _)
  have HUB0 := hid (show W0.heap[ub]? = some (.cells ((List.replicate c.lk (none : Option Spn)).map fun o => Value.bool o.isSome).toArray 4 (0, 0)) from by
    have h := heap_alloc_new (w3.alloc (.cells (spnCells (List.replicate c.lk (0, 0))).toArray 28)) (.cells (Array.replicate c.lk (Value.bool false)) 4)
    rw [World.size_alloc] at h
    rw [hW0, hub, List.map_replicate, List.toArray_replicate]
    exact h)
  have HK0 := hid (show Keep Nil w3 W0 from hW0 ▸ ((Keep.refl Nil w3).alloc _).alloc _)
  have hsz0 : W0.heap.size = w3.heap.size + 2 := by rw [hW0, World.size_alloc, World.size_alloc]
  have HGE := hid (show w.heap.size ≤ hb ∧ w.heap.size ≤ ub by have := HS3.out.own.size; omega)
  have HNB := hid (show hb ≠ ub by omega)
  have HQ0 := hid (show QS (fun q => q = hb ∨ q = ub) w W0 c b mb (List.replicate c.lk none) 0 from (qs_init HS3.out HC.out).other HK0.out (fun _ e => e.elim) (fun q e => .inr (by rcases e with e | e <;> omega)) (fun _ e => e.elim))
  go_wp2
  rw [← hW0, ← hub, ← hhb, ← hV2, ← hmo]
  clear hW0 hhb hub hmd0 hmd1 hjm hmo wmo mk1 mk2 hsz0 HK0 HS3 hV2
  go_loopw [15] (fun i wz => ∃ (k : Nat) (tb : List (Option Spn)) (hl : List Spn), k ≤ 20 ∧ i = .int .i64 k ∧ QS (fun q => q = hb ∨ q = ub) w wz c b mb tb (400 * k) ∧ wz.heap[hb]? = some (.cells (spnCells hl).toArray 28 (0, 0)) ∧ wz.heap[ub]? = some (.cells (tb.map fun o => Value.bool o.isSome).toArray 4 (0, 0)) ∧ hl.length = c.lk ∧ (∀ (q : Nat) (sp : Spn), tb[q]? = some (some sp) → hl[q]? = some sp)) (fun i _ => 20 - (intOf i).toNat)
  case atStart => exact ⟨0, _, _, Nat.zero_le _, rfl, HQ0.out, HHB0.out, HUB0.out, List.length_replicate, fun q sp h => by rw [List.getElem?_replicate] at h; split at h <;> cases h⟩
  case round =>
    obtain ⟨k, tb0, hl, hk, rfl, hqs, hhbw, hubw, hhl1, hhl2⟩ := hrel
    have HQA := hid hqs
    have HHBA := hid hhbw
    have HUBA := hid hubw
    have HHLA := hid (And.intro hhl1 hhl2)
    clear hqs hhbw hubw hhl1 hhl2 HQ0 HHB0 HUB0
    by_cases hlt : k < ss.length
    · have d1 : decide ((k : Int) < (ss.length : Int)) = true := decide_eq_true (by omega)
      have e1 : decide (k < ss.length) = true := decide_eq_true hlt
      by_cases h20 : k < 20
      · have d2 : decide ((k : Int) < 20) = true := decide_eq_true (by omega)
        have e2 : decide (k < 20) = true := decide_eq_true h20
        have HK20 := hid h20
        obtain ⟨y, hy⟩ : ∃ y, ss[k]? = some y := ⟨_, List.getElem?_eq_getElem hlt⟩
        obtain ⟨wl, wh⟩ := HBS.out y (List.mem_of_getElem? hy)
        obtain ⟨yl0, yl1⟩ := u64_wf wl
        obtain ⟨yh0, yh1⟩ := u64_wf wh
        obtain ⟨bb, off, cc, hv, hcell⟩ := Rd.cell HRS.out (by omega)
        simp only [Value.slice.injEq] at hv
        obtain ⟨hv1, -, hv2⟩ := hv
        have HS0 := hid (show w.cell? ⟨bb, off + k * 2, none⟩ = some (.int .u64 y.lo) from hcell (k * 2) _ (by have := spanCells_at hy (j := 0) (by decide); simpa [SpanV.cells] using this))
        have HS1 := hid (show w.cell? ⟨bb, off + k * 2 + 1, none⟩ = some (.int .u64 y.hi) from by rw [Nat.add_assoc]; exact hcell (k * 2 + 1) _ (by have := spanCells_at hy (j := 1) (by decide); simpa [SpanV.cells] using this))
        have k0 : (0 : Int) ≤ (k : Int) := by omega
        have k1 : (k : Int) < (ss.length : Int) := by omega
        have wk1 : IntKind.i64.wrap ((k : Int) + 1) = (k : Int) + 1 := by rw [IntKind.wrap_i64]; omega
        clear hcell hy wl wh hlt h20 hk
        subst hv1 hv2
        go_upto_region 10 with fail
        go_cut [66] (fun q wx => ∃ (dr : Bool), q = .bool dr ∧ wx = wr ∧ Hid (dr = true → ∃ dv, k < ds.length ∧ ds[k]? = some dv))
        case first =>
          as_aux_lemma =>
            by_cases hdl : k < ds.length
            · have dd : decide ((k : Int) < (ds.length : Int)) = true := decide_eq_true (by omega)
              have ee : decide (k < ds.length) = true := decide_eq_true hdl
              obtain ⟨dv, hdv⟩ : ∃ dv, ds[k]? = some dv := ⟨_, List.getElem?_eq_getElem hdl⟩
              obtain ⟨b3, off3, cc3, hv3, hcell3⟩ := Rd.cell HRD.out (by omega)
              simp only [Value.slice.injEq] at hv3
              obtain ⟨hv4, -, hv5⟩ := hv3
              have cd : wr.cell? ⟨b3, off3 + k, none⟩ = some (.int .i64 dv) := HQA.out.own.cell (hcell3 k _ (by rw [List.getElem?_map, hdv]; rfl)) (fun h => h)
              have kd : (k : Int) < (ds.length : Int) := by omega
              have HD := hid (show ∃ dv, k < ds.length ∧ ds[k]? = some dv from ⟨dv, hdl, hdv⟩)
              clear hcell3 hdv
              subst hv4 hv5
              go_wp2
              go_meet
              exact ⟨dv != 0, rfl, rfl, hid fun _ => HD.out⟩
            · have dd : decide ((k : Int) < (ds.length : Int)) = false := decide_eq_false (by omega)
              have ee : decide (k < ds.length) = false := decide_eq_false hdl
              go_wp2
              go_meet
              exact ⟨false, rfl, rfl, hid fun h => by cases h⟩
        case rest =>
          obtain ⟨dr, hq, hwx, HDR⟩ := hcut
          subst hq hwx
          go_upto_if 66 with fail
          go_cut [16, 17] (fun _ _ wx => ∃ tb : List (Option Spn), Hid (QS (fun q => q = hb ∨ q = ub) w wx c b mb tb (400 * k + 1)) ∧ Hid (wx.heap[hb]? = some (.cells (spnCells hl).toArray 28 (0, 0))) ∧ Hid (wx.heap[ub]? = some (.cells (tb.map fun o => Value.bool o.isSome).toArray 4 (0, 0))) ∧ Hid (hl.length = c.lk ∧ ∀ (q : Nat) (sp : Spn), tb[q]? = some (some sp) → hl[q]? = some sp))
          case first =>
            cases dr with
            | false =>
              go_wp2
              go_meet
              exact ⟨tb0, hid (HQA.out.more (by omega)), HHBA, HUBA, HHLA⟩
            | true =>
              obtain ⟨dv, hdl, hdv⟩ := HDR.out rfl
              have hdw := i64_wf (HBD.out dv (List.mem_of_getElem? hdv))
              obtain ⟨b3, off3, cc3, hv3, hcell3⟩ := Rd.cell HRD.out (by omega)
              simp only [Value.slice.injEq] at hv3
              obtain ⟨hv4, -, hv5⟩ := hv3
              have cd : wc.cell? ⟨b3, off3 + k, none⟩ = some (.int .i64 dv) := HQA.out.own.cell (hcell3 k _ (by rw [List.getElem?_map, hdv]; rfl)) (fun h => h)
              have kd : (k : Int) < (ds.length : Int) := by omega
              have hll := HLL.out
              have em0 : 0 ≤ dv % (c.lk : Int) := Int.emod_nonneg _ (by omega)
              have em1 : dv % (c.lk : Int) < (c.lk : Int) := Int.emod_lt_of_pos _ (by omega)
              obtain ⟨e, he⟩ : ∃ e : Nat, dv % (c.lk : Int) = (e : Int) := ⟨(dv % (c.lk : Int)).toNat, by omega⟩
              have hel : e < c.lk := by omega
              have HMOD := hid (show ∀ W : World, Calls Tryz.prog 29 #[.int .i64 dv, .int .i64 (c.lk : Int)] W fun e' w' => e' = .returned (.int .i64 (e : Int)) ∧ W = w' from fun W => by
                have h := mod_ok dv (c.lk : Int) hdw.1 hdw.2 (by omega) (by omega) W
                rw [he] at h
                exact h)
              obtain ⟨o, ho⟩ : ∃ o, tb0[e]? = some o := ⟨_, List.getElem?_eq_getElem (by rw [HQA.out.len]; exact hel)⟩
              have cu : wc.cell? ⟨ub, e, none⟩ = some (.bool o.isSome) := by rw [cell_of HUBA.out]; simp [ho]
              have x0 : (0 : Int) ≤ (e : Int) := by omega
              have x1 : (e : Int) < (c.lk : Int) := by omega
              have HO := hid ho
              have HEL := hid hel
              clear hcell3 hdv hdl hdw hll em0 em1 he ho hel
              subst hv4 hv5
              cases o with
              | none =>
                as_aux_lemma =>
                  go_wp2_with fail
                  refine (HMOD.out _).mono ?_
                  rintro e' w' ⟨rfl, rfl⟩
                  go_wp2_with fail
                  refine (qs_unlock0 HQA.out HC.out e HO.out).mono ?_
                  rintro e' w12 ⟨rfl, hk⟩
                  have HQ2 := hid (HQA.out.quiet hk)
                  have HHB2 := hid (hk.at HHBA.out (fun h => h))
                  have HUB2 := hid (hk.at HUBA.out (fun h => h))
                  have zu : w12.frozen? ⟨ub, e, none⟩ = false := free_of HUB2.out _
                  have cu2 : w12.cell? ⟨ub, e, none⟩ = some (.bool false) := by rw [cell_of HUB2.out]; simp [HO.out]
                  clear hk cu
                  go_wp2
                  go_meet
                  have hk9 : Keep (fun q => q = hb ∨ q = ub) w12 (w12.setCell ⟨ub, e, none⟩ (.bool false)) := (Keep.refl (fun q => q = hb ∨ q = ub) w12).setCell (.inl (.inr rfl)) _
                  refine ⟨tb0, hid ((HQ2.out.other hk9 (fun q e => .inl e) (fun q e => .inl e) (fun q e => e.elim (fun e => e ▸ HGE.out.1) (fun e => e ▸ HGE.out.2))).more (by omega)), hid (set_other HHB2.out (by simpa using HNB.out) _), hid ?_, HHLA⟩
                  rw [set_same HUB2.out _]
                  have hid0 : (tb0.map fun o => Value.bool o.isSome).set e (.bool false) = tb0.map fun o => Value.bool o.isSome := by
                    have h1 : (tb0.map fun o => Value.bool o.isSome)[e]? = some (.bool false) := by rw [List.getElem?_map, HO.out]; rfl
                    obtain ⟨h2, h3⟩ := List.getElem?_eq_some_iff.1 h1
                    rw [← h3, List.set_getElem_self]
                  rw [← hid0]
                  simp
              | some sp =>
                as_aux_lemma =>
                  go_wp2_with fail
                  refine (HMOD.out _).mono ?_
                  rintro e' w' ⟨rfl, rfl⟩
                  go_wp2_with fail
                  refine (qs_unlock1 HQA.out HC.out e sp HO.out (by have := HK20.out; omega)).mono ?_
                  rintro e' w12 ⟨rfl, hq2, hk⟩
                  have HQ2 := hid hq2
                  have HHB2 := hid (hk.at HHBA.out (fun h => h (.inl rfl)))
                  have HUB2 := hid (hk.at HUBA.out (fun h => h (.inr rfl)))
                  have zu : w12.frozen? ⟨ub, e, none⟩ = false := free_of HUB2.out _
                  have cu2 : w12.cell? ⟨ub, e, none⟩ = some (.bool true) := by rw [cell_of HUB2.out]; simp [HO.out]
                  clear hq2 hk cu
                  go_wp2
                  go_meet
                  have hk9 : Keep (fun q => q = hb ∨ q = ub) w12 (w12.setCell ⟨ub, e, none⟩ (.bool false)) := (Keep.refl (fun q => q = hb ∨ q = ub) w12).setCell (.inl (.inr rfl)) _
                  refine ⟨tb0.set e none, hid (HQ2.out.other hk9 (fun q e => .inl e) (fun q e => .inl e) (fun q e => e.elim (fun e => e ▸ HGE.out.1) (fun e => e ▸ HGE.out.2))), hid (set_other HHB2.out (by simpa using HNB.out) _), hid ?_, hid ⟨HHLA.out.1, fun q sp hq => ?_⟩⟩
                  · rw [set_same HUB2.out _, List.map_set]
                    simp
                  · rw [List.getElem?_set] at hq
                    split at hq
                    · split at hq <;> cases hq
                    · exact HHLA.out.2 q sp hq
          case rest =>
            obtain ⟨tb, HQB, HHBB, HUBB, HHL⟩ := hcut
            clear HQA HHBA HUBA HHLA HDR
            obtain ⟨wB, hwB⟩ : ∃ v, v = wc := ⟨_, rfl⟩
            rw [← hwB] at HQB HHBB HUBB ⊢
            clear hwB
            have cs0 : wB.cell? ⟨bb, off + k * 2, none⟩ = some (.int .u64 y.lo) := HQB.out.own.cell HS0.out (fun h => h)
            have cs1 : wB.cell? ⟨bb, off + k * 2 + 1, none⟩ = some (.int .u64 y.hi) := HQB.out.own.cell HS1.out (fun h => h)
            go_upto_if 93 with fail
            go_cut [] (fun wx => ∃ x : Spn, Hid (x.1 ≤ x.2 ∧ (0 ≤ x.1 ∧ x.1 < 18446744073709551616) ∧ (0 ≤ x.2 ∧ x.2 < 18446744073709551616)) ∧ Hid (wx.heap[wB.heap.size]? = some (.cells #[.int .u64 x.1, .int .u64 x.2] 28 (0, 0))) ∧ Hid (Keep Nil wB wx))
            case first =>
              as_aux_lemma =>
                by_cases hgt : y.hi < y.lo
                · have dgt : decide (y.hi < y.lo) = true := decide_eq_true hgt
                  go_wp2
                  go_meet
                  exact ⟨(y.hi, y.lo), hid ⟨by show y.hi ≤ y.lo; omega, ⟨yh0, yh1⟩, ⟨yl0, yl1⟩⟩, hid (heap_alloc_new wB _), hid ((Keep.refl Nil wB).alloc _)⟩
                · have dgt : decide (y.hi < y.lo) = false := decide_eq_false hgt
                  go_wp2
                  go_meet
                  exact ⟨(y.lo, y.hi), hid ⟨by show y.lo ≤ y.hi; omega, ⟨yl0, yl1⟩, ⟨yh0, yh1⟩⟩, hid (heap_alloc_new wB _), hid ((Keep.refl Nil wB).alloc _)⟩
            case rest =>
              obtain ⟨x, HX, HXBX, HKX⟩ := hcut
              obtain ⟨xb, hxb⟩ : ∃ xb, xb = wB.heap.size := ⟨_, rfl⟩
              have HNE := hid (show hb ≠ ub ∧ xb ≠ hb ∧ xb ≠ ub from ⟨HNB.out, by have := lt_of_block HHBB.out; omega, by have := lt_of_block HUBB.out; omega⟩)
              have HQX := hid (HQB.out.other (O' := fun q => q = hb ∨ q = ub ∨ q = xb) HKX.out (fun _ e => e.elim) (fun q e => by
                rcases e with e | e | e
                · exact .inl (.inl e)
                · exact .inl (.inr e)
                · exact .inr ⟨by omega, by have := lt_of_block HXBX.out; omega⟩) (fun _ e => e.elim))
              have HHBX := hid (HKX.out.at HHBB.out (fun h => h))
              have HUBX := hid (HKX.out.at HUBB.out (fun h => h))
              rw [← hxb] at HXBX ⊢
              clear HQB HHBB HUBB HKX hxb cs0 cs1
              go_wp2
              obtain ⟨w19, hw19⟩ : ∃ v, v = wc := ⟨_, rfl⟩
              rw [← hw19] at HQX HHBX HUBX HXBX ⊢
              clear hw19
              go_loopw [19, 20, 21, 22] (fun sv fv cv kv wz => ∃ (j st : Nat) (fr : Int) (cf : Bool), j ≤ c.lk ∧ kv = .int .i64 j ∧ sv = .int .i64 ((st : Int) + 1) ∧ fv = .int .i64 fr ∧ cv = .bool cf ∧ Keep Nil w19 wz ∧ st ≤ 3 * j ∧ -1 ≤ fr ∧ fr < 100 ∧ (if cf = true then scanP x 0 (-1) tb = (st, fr, true) else scanP x 0 (-1) tb = ((scanP x j fr (tb.drop j)).1 + st, (scanP x j fr (tb.drop j)).2))) (fun _ _ _ kv _ => c.lk - (intOf kv).toNat)
              case atStart => exact ⟨0, 0, -1, false, Nat.zero_le _, rfl, rfl, rfl, rfl, Keep.refl _ _, Nat.le_refl _, by decide, by decide, by simp⟩
              case round =>
                obtain ⟨j, m, fr, cf, hj, rfl, hsv, hfv, hcv, hkw, hst3, hfr0, hfr1, hsc⟩ := hrel
                subst hsv hfv hcv
                have HQ := hid (HQX.out.quiet hkw)
                have HHB := hid (hkw.at HHBX.out (fun h => h))
                have HUB := hid (hkw.at HUBX.out (fun h => h))
                have HXB := hid (hkw.at HXBX.out (fun h => h))
                have HKW := hid hkw
                have HM3 := hid (show m ≤ 3 * c.lk ∧ m ≤ 48 by have := HLL.out; omega)
                have HST := hid hst3
                have HFR := hid (And.intro hfr0 hfr1)
                clear hkw hst3 hfr0 hfr1
                by_cases hlt : j < c.lk
                · have d1 : decide ((j : Int) < (c.lk : Int)) = true := decide_eq_true (by omega)
                  have e1 : decide (j < c.lk) = true := decide_eq_true hlt
                  cases hcf : cf with
                  | true =>
                    subst hcf
                    rw [if_pos rfl] at hsc
                    have HSC := hid hsc
                    have HBS := hid (show (scanP x 0 (-1) tb).2.2 = true ∨ (scanP x 0 (-1) tb).2.1 < 0 by rw [hsc]; exact .inl rfl)
                    clear hsc hlt hj
                    as_aux_lemma =>
                      have y0 : wr.cell? ⟨xb, 0, none⟩ = some (.int .u64 x.1) := by rw [cell_of HXB.out]; rfl
                      have y1 : wr.cell? ⟨xb, 1, none⟩ = some (.int .u64 x.2) := by rw [cell_of HXB.out]; rfl
                      have hlk := qs_bad HQ.out HC.out x HX.out.1 HX.out.2.1 HX.out.2.2 jm HJM.out.1 (by have := HK20.out; omega) HBS.out m (by rw [HSC.out]) mo (mo * ((m : Int) + 1 + 1)) HJM.out.2 (by rw [HJM.out.2, show ((m : Int) + 1 + 1) = ((m + 2 : Nat) : Int) by omega]; exact (Int.natCast_mul _ _).symm)
                      have HLK := hid hlk
                      have hm3 := HM3.out
                      have hmo := HMO.out
                      have wst : IntKind.i64.wrap ((m : Int) + 1 + 1) = (m : Int) + 1 + 1 := by rw [IntKind.wrap_i64]; omega
                      have hmul : mo * ((m : Int) + 1 + 1) ≤ 6 * 100 := Int.mul_le_mul (by omega) (by omega) (by omega) (by omega)
                      have hmul0 : 0 ≤ mo * ((m : Int) + 1 + 1) := Int.mul_nonneg (by omega) (by omega)
                      obtain ⟨cnt, hcnt⟩ : ∃ cnt, cnt = mo * ((m : Int) + 1 + 1) := ⟨_, rfl⟩
                      have wmu : IntKind.i64.wrap (mo * ((m : Int) + 1 + 1)) = cnt := by rw [IntKind.wrap_i64]; omega
                      rw [← hcnt] at HLK
                      have bc : (cnt != cnt) = false := by simp
                      clear hlk hm3 hmo hmul hmul0 hcnt
                      go_wp2_with fail
                      refine HLK.out.mono ?_
                      rintro e w40 ⟨rfl, hqs, hkk⟩
                      have HQ2 := hid hqs
                      obtain ⟨wsP, logP, hsw⟩ := hqs.sw
                      have HSW := hid hsw
                      have HHB2 := hid (hkk.at HHB.out (fun h => h (.inl rfl)))
                      have HUB2 := hid (hkk.at HUB.out (fun h => h (.inr (.inl rfl))))
                      clear hqs hsw hkk HLK
                      go_wp2_with fail
                      refine (sw_mem HSW.out).mono ?_
                      rintro e w41 ⟨rfl, rfl⟩
                      go_wp2_with fail
                      refine (sw_layout HSW.out).mono ?_
                      rintro e w41 ⟨L, rfl, hl, rfl⟩
                      have HLAY := hid hl
                      clear hl
                      go_wp2_with fail
                      refine (places_ok HLAY.out).mono ?_
                      rintro e w42 ⟨rfl, hk⟩
                      have HQ3 := hid (HQ2.out.quiet hk)
                      have HHB3 := hid (hk.at HHB2.out (fun h => h))
                      have HUB3 := hid (hk.at HUB2.out (fun h => h))
                      clear hk HLAY
                      go_wp2_with fail
                      refine (qs_peek HQ3.out).mono ?_
                      rintro e w43 ⟨rfl, rfl⟩
                      have HQ4 := hid (show QS (fun q => q = hb ∨ q = ub) w w42 c b mb tb (400 * (k + 1)) from (HQ3.out.other (Keep.refl Nil w42) (fun _ e => e.elim) (fun q e => .inl (e.elim .inl (fun e => .inr (.inl e)))) (fun _ e => e.elim)).more (by have h6 : (jm + 1) * (m + 2) ≤ 6 * 50 := Nat.mul_le_mul (by have := HJM.out.1; omega) (by have := HM3.out; omega); omega))
                      clear HQ3 HQ2
                      go_wp2
                      go_roundw
                      case rel => exact ⟨k + 1, tb, hl, by have := HK20.out; omega, by go_num, HQ4.out, HHB3.out, HUB3.out, HHL.out.1, HHL.out.2⟩
                      case measure => have := HK20.out; simp [intOf]; omega
                  | false =>
                    subst hcf
                    rw [if_neg (by decide)] at hsc
                    obtain ⟨o, ho⟩ : ∃ o, tb[j]? = some o := ⟨_, List.getElem?_eq_getElem (by rw [HQX.out.len]; exact hlt)⟩
                    have hdr : tb.drop j = o :: tb.drop (j + 1) := by
                      obtain ⟨h1, h2⟩ := List.getElem?_eq_some_iff.1 ho
                      rw [List.drop_eq_getElem_cons h1, h2]
                    rw [hdr] at hsc
                    have cuj : wr.cell? ⟨ub, j, none⟩ = some (.bool o.isSome) := by rw [cell_of HUB.out]; simp [ho]
                    have j0 : (0 : Int) ≤ (j : Int) := by omega
                    have j1 : (j : Int) < (c.lk : Int) := by omega
                    have hll := HLL.out
                    have hm3 := HM3.out
                    have wj1 : IntKind.i64.wrap ((j : Int) + 1) = (j : Int) + 1 := by rw [IntKind.wrap_i64]; omega
                    have ws1 : IntKind.i64.wrap ((m : Int) + 1 + 1) = (m : Int) + 1 + 1 := by rw [IntKind.wrap_i64]; omega
                    have ws2 : IntKind.i64.wrap ((m : Int) + 1 + 1 + 2) = (m : Int) + 1 + 1 + 2 := by rw [IntKind.wrap_i64]; omega
                    have HSCC := hid hsc
                    have HO := hid ho
                    have HLT := hid hlt
                    clear hsc ho hdr hll hm3 hj
                    cases o with
                    | none =>
                      as_aux_lemma =>
                        by_cases hf0 : fr < 0
                        · have dfr : decide (fr < 0) = true := decide_eq_true hf0
                          have HS2 := hid (show scanP x 0 (-1) tb = ((scanP x (j + 1) (j : Int) (tb.drop (j + 1))).1 + (m + 1), (scanP x (j + 1) (j : Int) (tb.drop (j + 1))).2) from by
                            rw [HSCC.out, scanP, if_pos hf0]; simp only [Prod.mk.injEq]; exact ⟨by omega, trivial⟩)
                          clear hf0
                          go_wp2
                          go_roundw
                          case rel => exact ⟨j + 1, m + 1, (j : Int), false, by have := HLT.out; omega, by go_num, by go_num, rfl, (by first | rfl | trivial), HKW.out, by have := HST.out; omega, by omega, by have := HLL.out; have := HLT.out; omega, by rw [if_neg (by decide)]; exact HS2.out⟩
                          case measure => have := HLT.out; simp [intOf]; omega
                        · have dfr : decide (fr < 0) = false := decide_eq_false hf0
                          have HS2 := hid (show scanP x 0 (-1) tb = ((scanP x (j + 1) fr (tb.drop (j + 1))).1 + (m + 1), (scanP x (j + 1) fr (tb.drop (j + 1))).2) from by
                            rw [HSCC.out, scanP, if_neg hf0]; simp only [Prod.mk.injEq]; exact ⟨by omega, trivial⟩)
                          clear hf0
                          go_wp2
                          go_roundw
                          case rel => exact ⟨j + 1, m + 1, fr, false, by have := HLT.out; omega, by go_num, by go_num, rfl, (by first | rfl | trivial), HKW.out, by have := HST.out; omega, HFR.out.1, HFR.out.2, by rw [if_neg (by decide)]; exact HS2.out⟩
                          case measure => have := HLT.out; simp [intOf]; omega
                    | some sp =>
                      as_aux_lemma =>
                        have hhj := HHL.out.2 j sp HO.out
                        have ch0 : wr.cell? ⟨hb, j * 2, none⟩ = some (.int .u64 sp.1) := by rw [cell_of HHB.out]; have := eqS_at hhj (j := 0) (by decide); simpa using this
                        have ch1 : wr.cell? ⟨hb, j * 2 + 1, none⟩ = some (.int .u64 sp.2) := by rw [cell_of HHB.out]; have := eqS_at hhj (j := 1) (by decide); simpa using this
                        have y0 : wr.cell? ⟨xb, 0, none⟩ = some (.int .u64 x.1) := by rw [cell_of HXB.out]; rfl
                        have y1 : wr.cell? ⟨xb, 1, none⟩ = some (.int .u64 x.2) := by rw [cell_of HXB.out]; rfl
                        obtain ⟨q, hq⟩ : ∃ q, q = ovl sp x := ⟨_, rfl⟩
                        have HQQ := hid hq
                        clear hq hhj
                        go_wp2
                        go_region_held3 (fun w' => w'.cell? ⟨hb, j * 2, none⟩ = some (.int .u64 sp.1) ∧ w'.cell? ⟨hb, j * 2 + 1, none⟩ = some (.int .u64 sp.2) ∧ w'.cell? ⟨xb, 0, none⟩ = some (.int .u64 x.1) ∧ w'.cell? ⟨xb, 1, none⟩ = some (.int .u64 x.2)) (go_keep)
                          (first | (go_at_call 32; (with_reducible refine (overlap_ok sp x q HQQ.out).mono ?_); rintro e w20 ⟨rfl, hk20⟩; have r1 := (((Keep.refl Nil wr).drew).trans hk20 (fun _ _ h => h)); have i0 := r1.cell ch0 (fun h => h); have i1 := r1.cell ch1 (fun h => h); have i2 := r1.cell y0 (fun h => h); have i3 := r1.cell y1 (fun h => h); have HR1 := hid r1; clear r1 hk20))
                        all_goals
                          have HKE := hid (HKW.out.trans HR1.out (fun _ _ h => h))
                          cases q with
                          | true =>
                            have HS2 := hid (show scanP x 0 (-1) tb = (m + 3, fr, true) from by
                              rw [HSCC.out, scanP, if_pos HQQ.out.symm]; exact Prod.ext (by show 3 + m = m + 3; omega) rfl)
                            go_wp2
                            go_roundw
                            case rel => exact ⟨j + 1, m + 3, fr, true, by have := HLT.out; omega, by go_num, by go_num, rfl, rfl, HKE.out, by have := HST.out; omega, HFR.out.1, HFR.out.2, by rw [if_pos rfl]; exact HS2.out⟩
                            case measure => have := HLT.out; simp [intOf]; omega
                          | false =>
                            have HS2 := hid (show scanP x 0 (-1) tb = ((scanP x (j + 1) fr (tb.drop (j + 1))).1 + (m + 3), (scanP x (j + 1) fr (tb.drop (j + 1))).2) from by
                              rw [HSCC.out, scanP, if_neg (by rw [← HQQ.out]; decide)]; simp only [Prod.mk.injEq]; exact ⟨by omega, trivial⟩)
                            go_wp2
                            go_roundw
                            case rel => exact ⟨j + 1, m + 3, fr, false, by have := HLT.out; omega, by go_num, by go_num, rfl, rfl, HKE.out, by have := HST.out; omega, HFR.out.1, HFR.out.2, by rw [if_neg (by decide)]; exact HS2.out⟩
                            case measure => have := HLT.out; simp [intOf]; omega
                · have hjl : j = c.lk := by omega
                  have d1 : decide ((j : Int) < (c.lk : Int)) = false := decide_eq_false (by omega)
                  have e1 : decide (j < c.lk) = false := decide_eq_false hlt
                  have HSC := hid (show scanP x 0 (-1) tb = (m, fr, cf) from by
                    cases cf with
                    | true => rw [if_pos rfl] at hsc; exact hsc
                    | false =>
                      rw [if_neg (by decide), List.drop_eq_nil_of_le (by rw [HQX.out.len]; omega), scanP] at hsc
                      rw [hsc]; simp)
                  clear hsc hlt hj hjl
                  cases cf with
                  | true =>
                    have HBS := hid (show (scanP x 0 (-1) tb).2.2 = true ∨ (scanP x 0 (-1) tb).2.1 < 0 by rw [HSC.out]; exact .inl rfl)
                    as_aux_lemma =>
                      have y0 : wr.cell? ⟨xb, 0, none⟩ = some (.int .u64 x.1) := by rw [cell_of HXB.out]; rfl
                      have y1 : wr.cell? ⟨xb, 1, none⟩ = some (.int .u64 x.2) := by rw [cell_of HXB.out]; rfl
                      have hlk := qs_bad HQ.out HC.out x HX.out.1 HX.out.2.1 HX.out.2.2 jm HJM.out.1 (by have := HK20.out; omega) HBS.out m (by rw [HSC.out]) mo (mo * ((m : Int) + 1 + 1)) HJM.out.2 (by rw [HJM.out.2, show ((m : Int) + 1 + 1) = ((m + 2 : Nat) : Int) by omega]; exact (Int.natCast_mul _ _).symm)
                      have HLK := hid hlk
                      have hm3 := HM3.out
                      have hmo := HMO.out
                      have wst : IntKind.i64.wrap ((m : Int) + 1 + 1) = (m : Int) + 1 + 1 := by rw [IntKind.wrap_i64]; omega
                      have hmul : mo * ((m : Int) + 1 + 1) ≤ 6 * 100 := Int.mul_le_mul (by omega) (by omega) (by omega) (by omega)
                      have hmul0 : 0 ≤ mo * ((m : Int) + 1 + 1) := Int.mul_nonneg (by omega) (by omega)
                      obtain ⟨cnt, hcnt⟩ : ∃ cnt, cnt = mo * ((m : Int) + 1 + 1) := ⟨_, rfl⟩
                      have wmu : IntKind.i64.wrap (mo * ((m : Int) + 1 + 1)) = cnt := by rw [IntKind.wrap_i64]; omega
                      rw [← hcnt] at HLK
                      have bc : (cnt != cnt) = false := by simp
                      clear hlk hm3 hmo hmul hmul0 hcnt
                      go_wp2_with fail
                      refine HLK.out.mono ?_
                      rintro e w40 ⟨rfl, hqs, hkk⟩
                      have HQ2 := hid hqs
                      obtain ⟨wsP, logP, hsw⟩ := hqs.sw
                      have HSW := hid hsw
                      have HHB2 := hid (hkk.at HHB.out (fun h => h (.inl rfl)))
                      have HUB2 := hid (hkk.at HUB.out (fun h => h (.inr (.inl rfl))))
                      clear hqs hsw hkk HLK
                      go_wp2_with fail
                      refine (sw_mem HSW.out).mono ?_
                      rintro e w41 ⟨rfl, rfl⟩
                      go_wp2_with fail
                      refine (sw_layout HSW.out).mono ?_
                      rintro e w41 ⟨L, rfl, hl, rfl⟩
                      have HLAY := hid hl
                      clear hl
                      go_wp2_with fail
                      refine (places_ok HLAY.out).mono ?_
                      rintro e w42 ⟨rfl, hk⟩
                      have HQ3 := hid (HQ2.out.quiet hk)
                      have HHB3 := hid (hk.at HHB2.out (fun h => h))
                      have HUB3 := hid (hk.at HUB2.out (fun h => h))
                      clear hk HLAY
                      go_wp2_with fail
                      refine (qs_peek HQ3.out).mono ?_
                      rintro e w43 ⟨rfl, rfl⟩
                      have HQ4 := hid (show QS (fun q => q = hb ∨ q = ub) w w42 c b mb tb (400 * (k + 1)) from (HQ3.out.other (Keep.refl Nil w42) (fun _ e => e.elim) (fun q e => .inl (e.elim .inl (fun e => .inr (.inl e)))) (fun _ e => e.elim)).more (by have h6 : (jm + 1) * (m + 2) ≤ 6 * 50 := Nat.mul_le_mul (by have := HJM.out.1; omega) (by have := HM3.out; omega); omega))
                      clear HQ3 HQ2
                      go_wp2
                      go_roundw
                      case rel => exact ⟨k + 1, tb, hl, by have := HK20.out; omega, by go_num, HQ4.out, HHB3.out, HUB3.out, HHL.out.1, HHL.out.2⟩
                      case measure => have := HK20.out; simp [intOf]; omega
                  | false =>
                    by_cases hbad : fr < 0
                    · have dfr : decide (fr < 0) = true := decide_eq_true hbad
                      have HBS := hid (show (scanP x 0 (-1) tb).2.2 = true ∨ (scanP x 0 (-1) tb).2.1 < 0 by rw [HSC.out]; exact .inr hbad)
                      clear hbad
                      as_aux_lemma =>
                        have y0 : wr.cell? ⟨xb, 0, none⟩ = some (.int .u64 x.1) := by rw [cell_of HXB.out]; rfl
                        have y1 : wr.cell? ⟨xb, 1, none⟩ = some (.int .u64 x.2) := by rw [cell_of HXB.out]; rfl
                        have hlk := qs_bad HQ.out HC.out x HX.out.1 HX.out.2.1 HX.out.2.2 jm HJM.out.1 (by have := HK20.out; omega) HBS.out m (by rw [HSC.out]) mo (mo * ((m : Int) + 1 + 1)) HJM.out.2 (by rw [HJM.out.2, show ((m : Int) + 1 + 1) = ((m + 2 : Nat) : Int) by omega]; exact (Int.natCast_mul _ _).symm)
                        have HLK := hid hlk
                        have hm3 := HM3.out
                        have hmo := HMO.out
                        have wst : IntKind.i64.wrap ((m : Int) + 1 + 1) = (m : Int) + 1 + 1 := by rw [IntKind.wrap_i64]; omega
                        have hmul : mo * ((m : Int) + 1 + 1) ≤ 6 * 100 := Int.mul_le_mul (by omega) (by omega) (by omega) (by omega)
                        have hmul0 : 0 ≤ mo * ((m : Int) + 1 + 1) := Int.mul_nonneg (by omega) (by omega)
                        obtain ⟨cnt, hcnt⟩ : ∃ cnt, cnt = mo * ((m : Int) + 1 + 1) := ⟨_, rfl⟩
                        have wmu : IntKind.i64.wrap (mo * ((m : Int) + 1 + 1)) = cnt := by rw [IntKind.wrap_i64]; omega
                        rw [← hcnt] at HLK
                        have bc : (cnt != cnt) = false := by simp
                        clear hlk hm3 hmo hmul hmul0 hcnt
                        go_wp2_with fail
                        refine HLK.out.mono ?_
                        rintro e w40 ⟨rfl, hqs, hkk⟩
                        have HQ2 := hid hqs
                        obtain ⟨wsP, logP, hsw⟩ := hqs.sw
                        have HSW := hid hsw
                        have HHB2 := hid (hkk.at HHB.out (fun h => h (.inl rfl)))
                        have HUB2 := hid (hkk.at HUB.out (fun h => h (.inr (.inl rfl))))
                        clear hqs hsw hkk HLK
                        go_wp2_with fail
                        refine (sw_mem HSW.out).mono ?_
                        rintro e w41 ⟨rfl, rfl⟩
                        go_wp2_with fail
                        refine (sw_layout HSW.out).mono ?_
                        rintro e w41 ⟨L, rfl, hl, rfl⟩
                        have HLAY := hid hl
                        clear hl
                        go_wp2_with fail
                        refine (places_ok HLAY.out).mono ?_
                        rintro e w42 ⟨rfl, hk⟩
                        have HQ3 := hid (HQ2.out.quiet hk)
                        have HHB3 := hid (hk.at HHB2.out (fun h => h))
                        have HUB3 := hid (hk.at HUB2.out (fun h => h))
                        clear hk HLAY
                        go_wp2_with fail
                        refine (qs_peek HQ3.out).mono ?_
                        rintro e w43 ⟨rfl, rfl⟩
                        have HQ4 := hid (show QS (fun q => q = hb ∨ q = ub) w w42 c b mb tb (400 * (k + 1)) from (HQ3.out.other (Keep.refl Nil w42) (fun _ e => e.elim) (fun q e => .inl (e.elim .inl (fun e => .inr (.inl e)))) (fun _ e => e.elim)).more (by have h6 : (jm + 1) * (m + 2) ≤ 6 * 50 := Nat.mul_le_mul (by have := HJM.out.1; omega) (by have := HM3.out; omega); omega))
                        clear HQ3 HQ2
                        go_wp2
                        go_roundw
                        case rel => exact ⟨k + 1, tb, hl, by have := HK20.out; omega, by go_num, HQ4.out, HHB3.out, HUB3.out, HHL.out.1, HHL.out.2⟩
                        case measure => have := HK20.out; simp [intOf]; omega
                    ·
                      as_aux_lemma =>
                        have y0 : wr.cell? ⟨xb, 0, none⟩ = some (.int .u64 x.1) := by rw [cell_of HXB.out]; rfl
                        have y1 : wr.cell? ⟨xb, 1, none⟩ = some (.int .u64 x.2) := by rw [cell_of HXB.out]; rfl
                        have hbs : ¬ ((scanP x 0 (-1) tb).2.2 = true ∨ (scanP x 0 (-1) tb).2.1 < 0) := by rw [HSC.out]; exact fun e => e.elim (fun e => by cases e) hbad
                        obtain ⟨f, hf, hfn⟩ := qs_free HQ.out x hbs
                        have hfr : fr = (f : Int) := by rw [HSC.out] at hf; exact hf
                        have hmo := HMO.out
                        have hm3 := HM3.out
                        have hfl : f < c.lk := by have := (List.getElem?_eq_some_iff.1 hfn).1; rw [HQ.out.len] at this; exact this
                        have hlk := qs_good HQ.out HC.out x HX.out.1 HX.out.2.1 HX.out.2.2 mo (by omega) (by omega) (by have := HK20.out; omega) hbs m f (by rw [HSC.out]) hf ((m : Int) + 1 + 4) (by omega)
                        have HLK := hid hlk
                        have wst : IntKind.i64.wrap ((m : Int) + 1 + 4) = (m : Int) + 1 + 4 := by rw [IntKind.wrap_i64]; omega
                        have hll := HLL.out
                        have wl3 : IntKind.i64.wrap (3 * (c.lk : Int)) = 3 * (c.lk : Int) := by rw [IntKind.wrap_i64]; omega
                        have wl5 : IntKind.i64.wrap (5 + 3 * (c.lk : Int)) = 5 + 3 * (c.lk : Int) := by rw [IntKind.wrap_i64]; omega
                        have dgt : decide (5 + 3 * (c.lk : Int) < (m : Int) + 1 + 4) = false := decide_eq_false (by omega)
                        have bff : ((f : Int) != (f : Int)) = false := by simp
                        have bcc : (((m : Int) + 1 + 4) != ((m : Int) + 1 + 4)) = false := by simp
                        have dfr : decide ((f : Int) < 0) = false := decide_eq_false (by omega)
                        have x0f : (0 : Int) ≤ (f : Int) := by omega
                        have x1f : (f : Int) < (c.lk : Int) := by omega
                        have HF := hid (And.intro hfn hfl)
                        subst hfr
                        clear hlk hmo hm3 hfl hbs hbad hf hfn hll
                        go_wp2_with fail
                        refine HLK.out.mono ?_
                        rintro e w40 ⟨rfl, hqs, hkk⟩
                        have HQ2 := hid hqs
                        obtain ⟨wsP, logP, hsw⟩ := hqs.sw
                        have HSW := hid hsw
                        have HHB2 := hid (hkk.at HHB.out (fun h => h (.inl rfl)))
                        have HUB2 := hid (hkk.at HUB.out (fun h => h (.inr (.inl rfl))))
                        have HXB2 := hid (hkk.at HXB.out (fun h => h (.inr (.inr rfl))))
                        clear hqs hsw hkk HLK y0 y1
                        go_wp2_with fail
                        refine (sw_mem HSW.out).mono ?_
                        rintro e w41 ⟨rfl, rfl⟩
                        go_wp2_with fail
                        refine (sw_layout HSW.out).mono ?_
                        rintro e w41 ⟨L, rfl, hl, rfl⟩
                        have HLAY := hid hl
                        clear hl
                        go_wp2_with fail
                        refine (places_ok HLAY.out).mono ?_
                        rintro e w42 ⟨rfl, hk⟩
                        have HQ3 := hid (HQ2.out.quiet hk)
                        have HHB3 := hid (hk.at HHB2.out (fun h => h))
                        have HUB3 := hid (hk.at HUB2.out (fun h => h))
                        have HXB3 := hid (hk.at HXB2.out (fun h => h))
                        clear hk HLAY
                        go_wp2_with fail
                        refine (qs_peek HQ3.out).mono ?_
                        rintro e w43 ⟨rfl, rfl⟩
                        have y0 : w42.cell? ⟨xb, 0, none⟩ = some (.int .u64 x.1) := by rw [cell_of HXB3.out]; rfl
                        have y1 : w42.cell? ⟨xb, 1, none⟩ = some (.int .u64 x.2) := by rw [cell_of HXB3.out]; rfl
                        obtain ⟨hold, hho⟩ : ∃ y, hl[f]? = some y := ⟨_, List.getElem?_eq_getElem (by rw [HHL.out.1]; exact HF.out.2)⟩
                        have zh0 : w42.frozen? ⟨hb, f * 2, none⟩ = false := free_of HHB3.out _
                        have zh1 : w42.frozen? ⟨hb, f * 2 + 1, none⟩ = false := free_of HHB3.out _
                        have zu : w42.frozen? ⟨ub, f, none⟩ = false := free_of HUB3.out _
                        have ch0 : w42.cell? ⟨hb, f * 2, none⟩ = some (.int .u64 hold.1) := by rw [cell_of HHB3.out]; have := eqS_at hho (j := 0) (by decide); simpa using this
                        have ch1 : w42.cell? ⟨hb, f * 2 + 1, none⟩ = some (.int .u64 hold.2) := by rw [cell_of HHB3.out]; have := eqS_at hho (j := 1) (by decide); simpa using this
                        have cu : w42.cell? ⟨ub, f, none⟩ = some (.bool false) := by rw [cell_of HUB3.out]; simp [HF.out.1]
                        have n1 : hb ≠ ub := HNE.out.1
                        have n2 : xb ≠ hb := HNE.out.2.1
                        have n3 : xb ≠ ub := HNE.out.2.2
                        obtain ⟨W9, hW9⟩ : ∃ W9, W9 = ((w42.setCell ⟨hb, f * 2, none⟩ (.int .u64 x.1)).setCell ⟨hb, f * 2 + 1, none⟩ (.int .u64 x.2)).setCell ⟨ub, f, none⟩ (.bool true) := ⟨_, rfl⟩
                        have HK9 := hid (show Keep (fun q => q = hb ∨ q = ub) w42 W9 from hW9 ▸ (((Keep.refl (fun q => q = hb ∨ q = ub) w42).setCell (p := ⟨hb, f * 2, none⟩) (.inl (.inl rfl)) _).setCell (p := ⟨hb, f * 2 + 1, none⟩) (.inl (.inl rfl)) _).setCell (p := ⟨ub, f, none⟩) (.inl (.inr rfl)) _)
                        have HHB9 := hid (show W9.heap[hb]? = some (.cells (spnCells (hl.set f x)).toArray 28 (0, 0)) from by
                          rw [hW9]
                          refine set_other (p := ⟨ub, f, none⟩) ?_ (by simpa using n1) _
                          rw [set_same (set_same HHB3.out _) _, ← spn_set hho x]
                          simp)
                        have HUB9 := hid (show W9.heap[ub]? = some (.cells ((tb.set f (some x)).map fun o => Value.bool o.isSome).toArray 4 (0, 0)) from by
                          rw [hW9]
                          have h0 := set_other (p := ⟨hb, f * 2 + 1, none⟩) (set_other (p := ⟨hb, f * 2, none⟩) HUB3.out (by simpa using Ne.symm n1) (.int .u64 x.1)) (by simpa using Ne.symm n1) (.int .u64 x.2)
                          rw [set_same h0 _, List.map_set]
                          simp)
                        have HQ4 := hid (show QS (fun q => q = hb ∨ q = ub) w W9 c b mb (tb.set f (some x)) (400 * (k + 1)) from (HQ3.out.other HK9.out (fun q e => .inl (e.elim .inl (fun e => .inr (.inl e)))) (fun q e => .inl (e.elim .inl (fun e => .inr (.inl e)))) (fun q e => e.elim (fun e => e ▸ HGE.out.1) (fun e => e ▸ HGE.out.2))).more (by have := HM3.out; omega))
                        have HHL9 := hid (show (hl.set f x).length = c.lk ∧ ∀ (q : Nat) (sp : Spn), (tb.set f (some x))[q]? = some (some sp) → (hl.set f x)[q]? = some sp from by
                          refine ⟨by rw [List.length_set]; exact HHL.out.1, fun q sp hq => ?_⟩
                          rw [List.getElem?_set] at hq ⊢
                          split at hq
                          · rename_i e
                            rw [if_pos e]
                            split at hq
                            · cases hq
                              rw [if_pos (by rw [HHL.out.1]; have := HF.out.2; omega)]
                            · cases hq
                          · rename_i e
                            rw [if_neg e]
                            exact HHL.out.2 q sp hq)
                        clear hho
                        go_wp2
                        rw [← hW9]
                        go_roundw
                        case rel => exact ⟨k + 1, tb.set f (some x), hl.set f x, by have := HK20.out; omega, by go_num, HQ4.out, HHB9.out, HUB9.out, HHL9.out.1, HHL9.out.2⟩
                        case measure => have := HK20.out; simp [intOf]; omega
      · have d2 : decide ((k : Int) < 20) = false := decide_eq_false (by omega)
        have e2 : decide (k < 20) = false := decide_eq_false h20
        clear hlt h20 hk
        go_wp2_with fail
        refine (kawake_ok).mono ?_
        rintro e w21 ⟨rfl, hk⟩
        have HK9 := hid (HQA.out.own.trans hk (fun _ _ h => h))
        clear hk
        go_wp2
        go_ret
        exact ⟨rfl, HK9.out⟩
    · have d1 : decide ((k : Int) < (ss.length : Int)) = false := decide_eq_false (by omega)
      have e1 : decide (k < ss.length) = false := decide_eq_false hlt
      clear hlt hk
      go_wp2_with fail
      refine (kawake_ok).mono ?_
      rintro e w21 ⟨rfl, hk⟩
      have HK9 := hid (HQA.out.own.trans hk (fun _ _ h => h))
      clear hk
      go_wp2
      go_ret
      exact ⟨rfl, HK9.out⟩
end
end Go.Proofs.YtmafdjhjmnghcaaGreat
