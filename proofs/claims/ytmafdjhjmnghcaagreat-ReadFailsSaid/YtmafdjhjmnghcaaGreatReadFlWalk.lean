/- ReadFails: a read fails only where the state was stored meanwhile, and changes nothing: the walk. -/
import Derived.Test.YtmafdjhjmnghcaaGreatReadFP
import Derived.Test.YtmafdjhjmnghcaaGreatSmallOk
import Derived.Test.YtmafdjhjmnghcaaGreatInitFacts
import Derived.Test.YtmafdjhjmnghcaaGreatOpenRSet
import Derived.Deep.RegionHeld3
import Derived.Deep.DeepCutAuto
set_option linter.unusedVariables false
set_option linter.unusedSimpArgs false
namespace Go.Proofs.YtmafdjhjmnghcaaGreat
open Go.RowKit Go.Lf
section
theorem cell_lt {W : World} {b i : Nat} {v : Value} (h : W.cell? ⟨b, i, none⟩ = some v) : b < W.heap.size := by
  rcases Nat.lt_or_ge b W.heap.size with h1 | h1
  · exact h1
  · exfalso
    have : W.heap[b]? = none := Array.getElem?_eq_none h1
    simp [World.cell?, this] at h
theorem rd_take {w : World} {a : Option Addr} {cp : Nat} {l : List SetV} (h : Rd w 4 (.slice a l.length cp) l.length (setCells l)) (m : Nat) (hm : m ≤ l.length) : Rd w 4 (.slice a m cp) m (setCells (l.take m)) := by
  have hlen : ∀ l : List SetV, (setCells l).length = l.length * 4 := fun l => by
    induction l with
    | nil => rfl
    | cons x l ih => simp only [setCells, List.flatMap_cons, List.length_append, List.length_cons] at ih ⊢; rw [ih, show x.cells.length = 4 from rfl]; omega
  have hap : setCells l = setCells (l.take m) ++ setCells (l.drop m) := by
    unfold setCells
    rw [← List.flatMap_append, List.take_append_drop]
  obtain ⟨a', c', hv, hl, h⟩ := h
  cases hv
  refine ⟨a, cp, rfl, by rw [hlen, List.length_take]; omega, ?_⟩
  rcases h with ⟨h1, h2, h3⟩ | ⟨b, off, h1, h2⟩ | ⟨h1, h2⟩
  · exact .inl ⟨h1, by omega, h3⟩
  · refine .inr (.inl ⟨b, off, h1, fun j u hu => h2 j u ?_⟩)
    rw [hap, List.getElem?_append_left (List.getElem?_eq_some_iff.1 hu).1]
    exact hu
  · exact .inr (.inr ⟨h1, by omega⟩)
set_option maxRecDepth 100000 in
set_option maxHeartbeats 8000000 in
theorem walk_rfails (w : World) (z : ConfV) (hz : ConfArg w z) (x : RArg) (hx : x.wf) (va : Value) (l : List SetV) (rd : Rd w 4 va l.length (setCells l)) (bd : ∀ y ∈ l, SetV.wf y) (ml : l.length ≤ maxLen ∧ CapOk va) :
    Calls Tryz.prog 9 #[z.val, .agg x.cells.toArray, va] w fun e w' => e = .returned (.bool true) ∧ Keep Nil w w' := by
  obtain ⟨th, tw, tr⟩ := x
  obtain ⟨b1, b2, b3⟩ := hx
  obtain ⟨tw0, tw1⟩ := i64_wf b2
  obtain ⟨tr0, tr1⟩ := i64_wf b3
  obtain ⟨a, cp, rfl, -, -⟩ := id rd
  have HRD := hid rd
  have HBD := hid bd
  have HML := hid ml.1
  have hcp : l.length ≤ cp := ml.2 a l.length cp rfl
  have HZ := hid hz
  have HC0 := hid z.ok
  have r0 : 0 ≤ tr % 256 := Int.emod_nonneg _ (by decide)
  have r1 : tr % 256 ≤ 255 := by omega
  clear hz rd bd ml b1 b2 b3
  show Calls Tryz.prog 9 #[z.val, .agg #[.int .i64 th, .int .i64 tw, .int .i64 tr], .slice a l.length cp] w fun e w' => e = .returned (.bool true) ∧ Keep Nil w w'
  unfold ConfV.val
  go_enter Tryz.func9, Tryz.ntmps9
  obtain ⟨wb, hwb⟩ : ∃ wb, wb = (w.alloc (.cells #[.int .i64 z.th, .int .i64 z.sl, .int .u8 z.eng, .int .i64 z.bk, .int .u8 z.k, .int .i64 z.n, .slice z.a z.cuts.length z.cp, .int .i64 z.t1, .int .i64 z.t2, .int .i64 z.t3, .int .i64 z.t4, .int .i64 z.t5, .int .i64 z.t6, .int .i64 z.lk, .int .i64 z.tr, .int .i64 z.ba] 45)).alloc (.cells #[.int .i64 th, .int .i64 tw, .int .i64 tr] 78) := ⟨_, rfl⟩
  have hb0 := heap_alloc_new (w.alloc (.cells #[.int .i64 z.th, .int .i64 z.sl, .int .u8 z.eng, .int .i64 z.bk, .int .u8 z.k, .int .i64 z.n, .slice z.a z.cuts.length z.cp, .int .i64 z.t1, .int .i64 z.t2, .int .i64 z.t3, .int .i64 z.t4, .int .i64 z.t5, .int .i64 z.t6, .int .i64 z.lk, .int .i64 z.tr, .int .i64 z.ba] 45)) (.cells #[.int .i64 th, .int .i64 tw, .int .i64 tr] 78)
  rw [World.size_alloc, ← hwb] at hb0
  have HB0 := hid hb0
  have HKW := hid (show Keep Nil w wb from hwb ▸ ((Keep.refl Nil w).alloc _).alloc _)
  go_wp2_with fail
  rw [← hwb]
  clear hb0 hwb
  refine (small_ok z (HZ.out.keep HKW.out)).mono ?_
  rintro e w1 ⟨a1, cp1, rfl, hr1, hk1, -⟩
  have HR1 := hid hr1
  have HK1 := hid (HKW.out.trans hk1 (fun _ _ h => h))
  have HB1 := hid (hk1.at HB0.out (fun h => h))
  clear hr1 hk1
  go_wp2_with fail
  refine (open2_ok z.c z.ok _ _ _ _ _ _ rfl a1 cp1 HR1.out).mono ?_
  rintro e w2 ⟨b, mb, rb, rm, rfl, htwo⟩
  have HTWO := hid htwo
  have HB2 := hid (htwo.own.at HB1.out (fun h => h))
  have hbz : w.heap.size + 1 < w2.heap.size := lt_of_block HB2.out
  clear htwo HB0 HKW
  obtain ⟨c, hc⟩ : ∃ c, c = z.c := ⟨_, rfl⟩
  rw [← hc] at HTWO HC0
  obtain ⟨V1, hV1⟩ : ∃ V : Value, V = cfgV z.c (z.t1 % 7).toNat (z.t2 % 7).toNat (z.t3 % 7).toNat (z.t4 % 7).toNat (z.t5 % 7).toNat (z.t6 % 7).toNat a1 cp1 := ⟨_, rfl⟩
  rw [← hV1]
  clear hc hV1 HR1 HZ
  go_upto_region 2 with fail
  obtain ⟨W, hW⟩ : ∃ W, W = w2.alloc (.cells #[.pointer (some ⟨b, 0, none⟩), .pointer (some ⟨rb, 0, none⟩)] 96) := ⟨_, rfl⟩
  rw [← hW]
  have h1 := (T2.init (O := ReadO b) (O' := NoO) HTWO.out).own1 (.cells #[.pointer (some ⟨b, 0, none⟩), .pointer (some ⟨rb, 0, none⟩)] 96)
  have hbx := heap_alloc_new w2 (.cells #[.pointer (some ⟨b, 0, none⟩), .pointer (some ⟨rb, 0, none⟩)] 96)
  have hkw := (Keep.refl Nil w2).alloc (.cells #[.pointer (some ⟨b, 0, none⟩), .pointer (some ⟨rb, 0, none⟩)] 96)
  rw [← hW] at h1 hbx hkw
  clear hW
  obtain ⟨tb, htb⟩ : ∃ tb, tb = w2.heap.size := ⟨_, rfl⟩
  rw [← htb] at h1 hbx ⊢
  have HT := hid (h1.less (L' := fun k => k = tb) (fun k e => .inr e))
  have HBX := hid hbx
  have HBA := hid (hkw.at HB2.out (fun h => h))
  have HK1W := hid (show Keep Nil w w1 from HK1.out)
  have c0 : W.cell? ⟨tb, 0, none⟩ = some (.pointer (some ⟨b, 0, none⟩)) := by rw [cell_of hbx]; rfl
  have c1 : W.cell? ⟨tb, 1, none⟩ = some (.pointer (some ⟨rb, 0, none⟩)) := by rw [cell_of hbx]; rfl
  have g1 : W.cell? ⟨w.heap.size + 1, 1, none⟩ = some (.int .i64 tw) := by rw [cell_of HBA.out]; rfl
  have g2 : W.cell? ⟨w.heap.size + 1, 2, none⟩ = some (.int .i64 tr) := by rw [cell_of HBA.out]; rfl
  clear h1 hbx hkw htb HB1 HB2 hbz HTWO HK1
  have HC := hid HC0.out
  have hnt := HC.out.nT
  clear HC0
  go_wp2_with fail
  refine (t2_layout HT.out).mono ?_
  rintro e w3 ⟨L, rfl, hl, rfl⟩
  have HLAY := hid hl
  clear hl
  go_wp2_with fail
  refine (towers_ok HLAY.out).mono ?_
  rintro e w3 ⟨rfl, rfl⟩
  clear HLAY
  by_cases hz : c.nT = 0
  · have dz : (((c.nT : Nat) : Int) == 0) = true := beq_iff_eq.2 (by omega)
    clear hnt hz
    go_wp2_with fail
    refine (lawake_ok).mono ?_
    rintro e w4 ⟨rfl, hk⟩
    have HK9 := hid (HK1W.out.trans (HT.out.own.trans hk (fun _ _ h => h)) (fun _ _ h => h))
    clear hk
    go_wp2
    go_ret
    exact ⟨rfl, HK9.out⟩
  · have dz : (((c.nT : Nat) : Int) == 0) = false := beq_eq_false_iff_ne.2 (by omega)
    have hm0 : 0 ≤ tw % (c.nT : Int) := Int.emod_nonneg _ (by omega)
    have hm1 : tw % (c.nT : Int) < (c.nT : Int) := Int.emod_lt_of_pos _ (by omega)
    obtain ⟨k, hk⟩ : ∃ k : Nat, tw % (c.nT : Int) = (k : Int) := ⟨(tw % (c.nT : Int)).toNat, by omega⟩
    have HI := hid (show k < c.nT by omega)
    have HMOD := hid (show ∀ W : World, Calls Tryz.prog 29 #[.int .i64 tw, .int .i64 (c.nT : Int)] W fun e w' => e = .returned (.int .i64 (k : Int)) ∧ W = w' from fun W => by
      have := mod_ok tw (c.nT : Int) tw0 tw1 (by omega) (by omega) W
      rw [hk] at this
      exact this)
    obtain ⟨q, hq⟩ : ∃ q, q = tr % 256 := ⟨_, rfl⟩
    have HMOD2 := hid (show ∀ W : World, Calls Tryz.prog 29 #[.int .i64 tr, .int .i64 256] W fun e w' => e = .returned (.int .i64 q) ∧ W = w' from fun W => by
      have := mod_ok tr 256 tr0 tr1 (by omega) (by omega) W
      rw [← hq] at this
      exact this)
    have wi : IntKind.i64.wrap (1 + (k : Int)) = 1 + (k : Int) := by rw [IntKind.wrap_i64]; have := HI.out; omega
    have HQ := hid (show 0 ≤ q ∧ q ≤ 255 by omega)
    clear hnt hz hm0 hm1 hk hq r0 r1
    have KD := hid ((Keep.refl Nil W).drew)
    go_wp2_with fail
    go_region_held3 (fun w' => w'.cell? ⟨w.heap.size + 1, 1, none⟩ = some (.int .i64 tw) ∧ w'.cell? ⟨w.heap.size + 1, 2, none⟩ = some (.int .i64 tr) ∧ w'.cell? ⟨tb, 0, none⟩ = some (.pointer (some ⟨b, 0, none⟩))) (go_keep)
      (first
        | (go_at_call 22; (with_reducible refine (t2_layout (HT.out.quiet KD.out)).mono ?_); rintro e w9 ⟨L, rfl, hl, rfl⟩; have HLAY := hid hl; clear hl)
        | (go_at_call 42; (with_reducible refine (towers_ok HLAY.out).mono ?_); rintro e w9 ⟨rfl, rfl⟩)
        | (go_at_call 29; (with_reducible refine (HMOD.out _).mono ?_); rintro e w9 ⟨rfl, rfl⟩)
        | (go_at_call 29; (with_reducible refine (HMOD2.out _).mono ?_); rintro e w9 ⟨rfl, rfl⟩))
    clear HLAY HMOD HMOD2 g1 g2 HBA wi
    have HWK := hid (show (1 : Int) + (k : Int) = (k : Int) + 1 by omega)
    go_wp2_with fail
    refine (tw_new (HT.out.quiet KD.out) HC.out 0 (1 + (k : Int)) q (by decide) (by decide) HQ.out.1 HQ.out.2 (by omega) (by have := HI.out; omega)).mono ?_
    rintro e w4 ⟨rfl, ht4, hk4⟩
    have hb4 := hk4.loc HBX.out rfl
    have HF4 := hid (FW.mk (k := k) (tries := q) (m := 0) (n := 0) ⟨[], (ints c.init, []), ht4, Nat.le_refl 0, Nat.le_refl 0, init_length c⟩ (WdOk.init HC.out) (FI.init c.lk 0 (c.tow k) (ints c.init) (1 + (k : Int)) q HQ.out.1) HWK.out rfl (Nat.le_refl 0))
    obtain ⟨r, hr⟩ : ∃ r, W.drew.heap.size = r := ⟨_, rfl⟩
    rw [hr] at HF4 ⊢
    have HB4 := hid hb4
    have c04 : w4.cell? ⟨tb, 0, none⟩ = some (.pointer (some ⟨b, 0, none⟩)) := by rw [cell_of hb4]; rfl
    have c14 : w4.cell? ⟨tb, 1, none⟩ = some (.pointer (some ⟨rb, 0, none⟩)) := by rw [cell_of hb4]; rfl
    have htz : tb < w4.heap.size := lt_of_block hb4
    clear ht4 hk4 hb4 c0 c1 KD HT HBX
    go_upto_region 10 with fail
    have hml := HML.out
    unfold maxLen at hml
    go_cut [2] (fun v wx => v = .slice a (min l.length 60) cp ∧ w4 = wx)
    case first =>
      rcases (show l.length < 60 ∨ l.length = 60 ∨ 60 < l.length by omega) with h60 | h60 | h60
      · have E60 := hid (show min l.length 60 = l.length by omega)
        have i1 : ((60 : Int) < (l.length : Int)) = False := eq_false (by omega)
        have i2 : ((l.length : Int) < 60) = True := eq_true (by omega)
        have i3 : (l.length : Int) ≤ (cp : Int) := by omega
        go_wp2
        go_meet
        exact ⟨by rw [E60.out], rfl⟩
      · have E60 := hid (show min l.length 60 = l.length by omega)
        have E61 := hid (show min l.length 60 = 60 by omega)
        have i1 : ((60 : Int) < (l.length : Int)) = False := eq_false (by omega)
        have i2 : ((l.length : Int) < 60) = False := eq_false (by omega)
        have i3 : (l.length : Int) ≤ (cp : Int) := by omega
        have i4 : (60 : Int) ≤ (cp : Int) := by omega
        go_wp2
        go_meet
        exact ⟨by rw [E61.out], rfl⟩
      · have E60 := hid (show min l.length 60 = 60 by omega)
        have i1 : ((60 : Int) < (l.length : Int)) = True := eq_true (by omega)
        have i2 : ((l.length : Int) < 60) = False := eq_false (by omega)
        have i3 : (60 : Int) ≤ (cp : Int) := by omega
        go_wp2
        go_meet
        exact ⟨by rw [E60.out], rfl⟩
    case rest =>
      obtain ⟨rfl, rfl⟩ := hcut
      obtain ⟨l', hl'⟩ : ∃ l', l' = l.take 60 := ⟨_, rfl⟩
      have hlen : min l.length 60 = l'.length := by rw [hl', List.length_take]; omega
      have hrt := rd_take HRD.out (min l.length 60) (by omega)
      have htk : l.take (min l.length 60) = l' := by
        rw [hl']
        by_cases h : l.length ≤ 60
        · rw [Nat.min_eq_left h, List.take_length, List.take_of_length_le h]
        · rw [Nat.min_eq_right (by omega)]
      rw [htk, hlen] at hrt
      rw [hlen]
      have HRL := hid hrt
      have HWF := hid (show ∀ y ∈ l', SetV.wf y from fun y hy => HBD.out y (by rw [hl'] at hy; exact List.mem_of_mem_take hy))
      have hl60 : l'.length ≤ 60 := by omega
      have HOB := hid (show ∀ q, 0 < l'.length → (Value.slice a l'.length cp).ownBlock = some q → ¬ Out w1 (fun k => k = tb) q from fun q h0 e ho => by
        have hz1 := HK1W.out.size
        obtain ⟨b2, off, cc, hv, hcell⟩ := Rd.cell HRD.out (by omega)
        cases hv
        have h2 : b2 = q := by simpa [Value.ownBlock] using e
        obtain ⟨u, hu⟩ : ∃ u, (setCells l)[0]? = some u := by
          cases l with
          | nil => simp at hl'; rw [hl'] at h0; simp at h0
          | cons x l => exact ⟨_, rfl⟩
        have h3 := hcell 0 u hu
        have h4 : b2 < w.heap.size := cell_lt h3
        have h5 := ho.2
        omega)
      clear hlen hrt htk hl' HRD HBD HML hcp hml c04 c14 htz hr
      go_wp2
      go_loopw [13, 14] (fun nv iv wr => ∃ (i n : Nat) (s : RS) (ws : List Int), i ≤ 100 ∧ nv = .int .i64 n ∧ iv = .int .i64 i ∧ FW w1 wr c b mb rb rm r k (fun k => k = tb) q (61 * i) n s ws ∧ wr.heap[tb]? = some (.cells #[.pointer (some ⟨b, 0, none⟩), .pointer (some ⟨rb, 0, none⟩)] 96 (0, 0)) ∧ (i = 0 → s.next = 23)) (fun nv iv _ => 100 - (intOf iv).toNat)
      case atStart => exact ⟨0, 0, _, _, by omega, rfl, rfl, HF4.out, HB4.out, fun _ => rfl⟩
      case round =>
        obtain ⟨i, n, s, ws, hi, rfl, rfl, hf, hb, h0⟩ := hrel
        have HF := hid hf
        have HB := hid hb
        have H0 := hid h0
        have HIL := hid hi
        clear hf hb h0 hi HF4 HB4
        by_cases hlt : i < 100
        · have d1 : decide ((i : Int) < 100) = true := decide_eq_true (by omega)
          cases he : s.ended with
          | true =>
            have dn : (s.next != 0) = false := by rw [(HF.out.fi.over he).1]; rfl
            clear hlt
            go_wp2_with fail
            refine (fw_next HF.out).mono ?_
            rintro e w5 ⟨rfl, rfl⟩
            go_wp2_with fail
            refine (fw_res1 HF.out he).mono ?_
            rintro e w5 ⟨rfl, hk5⟩
            have HK5 := hid hk5
            clear hk5
            have HO := hid (HF.out.fi.over he)
            have dl : decide (s.fails ≤ (n : Int)) = true := decide_eq_true HF.out.fi.le
            rcases HO.out.2 with ⟨h11, hq0, hfq, hv0, hp0⟩ | ⟨h0e, hq⟩
            · have e8 : (s.err == 8) = false := beq_eq_false_iff_ne.2 (by omega)
              have e11 : (s.err == 11) = true := beq_iff_eq.2 h11
              have e0 : (s.err == 0) = false := beq_eq_false_iff_ne.2 (by omega)
              have dq : decide (0 < q) = true := decide_eq_true hq0
              have efq : (s.fails == q) = true := beq_iff_eq.2 hfq
              have ev : (s.value == 0) = true := beq_iff_eq.2 hv0
              clear h11 hq0 hfq hv0
              go_wp2_with fail
              refine (lawake_ok).mono ?_
              rintro e w9 ⟨rfl, hk9⟩
              have HK9 := hid (HK1W.out.trans (HF.out.own.trans (HK5.out.trans hk9 (fun _ _ h => h)) (fun _ _ h => h)) (fun _ _ h => h))
              clear hk9
              go_wp2
              go_ret
              exact ⟨rfl, HK9.out⟩
            · have e8 : (s.err == 8) = false := beq_eq_false_iff_ne.2 (by omega)
              have e11 : (s.err == 11) = false := beq_eq_false_iff_ne.2 (by omega)
              have e0 : (s.err == 0) = true := beq_iff_eq.2 h0e
              rcases (show q = 0 ∨ (0 < q ∧ s.fails ≠ q) by have := HQ.out; omega) with hq0 | ⟨hq1, hfq⟩
              · have dq : decide (0 < q) = false := decide_eq_false (by omega)
                clear h0e hq hq0
                go_wp2_with fail
                refine (lawake_ok).mono ?_
                rintro e w9 ⟨rfl, hk9⟩
                have HK9 := hid (HK1W.out.trans (HF.out.own.trans (HK5.out.trans hk9 (fun _ _ h => h)) (fun _ _ h => h)) (fun _ _ h => h))
                clear hk9
                go_wp2
                go_ret
                exact ⟨rfl, HK9.out⟩
              · have dq : decide (0 < q) = true := decide_eq_true hq1
                have efq : (s.fails == q) = false := beq_eq_false_iff_ne.2 hfq
                clear h0e hq hq1 hfq
                go_wp2_with fail
                refine (lawake_ok).mono ?_
                rintro e w9 ⟨rfl, hk9⟩
                have HK9 := hid (HK1W.out.trans (HF.out.own.trans (HK5.out.trans hk9 (fun _ _ h => h)) (fun _ _ h => h)) (fun _ _ h => h))
                clear hk9
                go_wp2
                go_ret
                exact ⟨rfl, HK9.out⟩
          | false =>
            have dn : (s.next != 0) = true := bne_iff_ne.2 (by have := (HF.out.fi.going he).2.2.2; omega)
            have HRW := hid (rd_keep HRL.out (HK1W.out.trans HF.out.own (fun _ _ h => h)) (fun _ _ h => h))
            have hnm := HF.out.nm
            go_wp2_with fail
            refine (fw_next HF.out).mono ?_
            rintro e w5 ⟨rfl, rfl⟩
            go_wp2
            go_loopw [13, 15] (fun nv kv wz => ∃ j : Nat, j ≤ l'.length ∧ nv = .int .i64 ((n + cntS (i : Int) (l'.take j) : Nat) : Int) ∧ kv = .int .i64 j ∧ wr = wz) (fun nv kv _ => l'.length - (intOf kv).toNat)
            case atStart => exact ⟨0, Nat.zero_le _, rfl, rfl, rfl⟩
            case round =>
              obtain ⟨j, hj, rfl, rfl, rfl⟩ := hrel
              by_cases hjl : j < l'.length
              · obtain ⟨y, hy⟩ : ∃ y, l'[j]? = some y := ⟨_, List.getElem?_eq_getElem hjl⟩
                have HTK := hid (cntS_take (i := (i : Int)) hy)
                have hyw := SetV.wf_what (HWF.out y (List.mem_of_getElem? hy))
                obtain ⟨hyw0, hyw1⟩ := hyw
                obtain ⟨bb, off, cc, hv, hcell⟩ := Rd.cell HRW.out (by omega)
                have hvv := hv
                simp only [Value.slice.injEq] at hv
                obtain ⟨hv1, -, hv2⟩ := hv
                obtain ⟨e0, e1, -, -⟩ := setCells_at hy
                have v0 := hcell _ _ e0
                have v1 := hcell _ _ e1
                rw [← Nat.add_assoc] at v1
                have k0 : (0 : Int) ≤ (j : Int) := by omega
                have k1 : (j : Int) < (l'.length : Int) := by omega
                have wk : IntKind.i64.wrap ((j : Int) + 1) = (j : Int) + 1 := by rw [IntKind.wrap_i64]; omega
                have hcl := cntS_le (i : Int) (l'.take j)
                have htl : (l'.take j).length ≤ 60 := by rw [List.length_take]; omega
                obtain ⟨N, hN⟩ : ∃ N, N = n + cntS (i : Int) (l'.take j) := ⟨_, rfl⟩
                rw [← hN]
                have wn : IntKind.i64.wrap ((N : Int) + 1) = (N : Int) + 1 := by rw [IntKind.wrap_i64]; omega
                obtain ⟨mm, hmm⟩ : ∃ mm, (if y.at_ < 0 then 0 else y.at_) = mm := ⟨_, rfl⟩
                have HNM := hid (show y.now (i : Int) = (mm == (i : Int)) by rw [← hmm]; rfl)
                have HN := hid hN
                clear hcell e0 e1 hy hcl htl hN hvv
                subst hv1
                cases hb1 : (mm == (i : Int)) with
                | false =>
                  have HNW := hid (show n + cntS (i : Int) (l'.take (j + 1)) = N from by rw [HTK.out, HN.out, HNM.out, hb1]; rfl)
                  go_wp2
                  go_roundw
                  case rel => exact ⟨j + 1, by omega, by rw [HNW.out], by go_num, trivial⟩
                  case measure => simp [intOf]; omega
                | true =>
                  cases hb2 : (y.what % 4 == 0) with
                  | false =>
                    have HNW := hid (show n + cntS (i : Int) (l'.take (j + 1)) = N from by rw [HTK.out, HN.out, HNM.out, hb1, hb2]; rfl)
                    go_wp2
                    go_roundw
                    case rel => exact ⟨j + 1, by omega, by rw [HNW.out], by go_num, trivial⟩
                    case measure => simp [intOf]; omega
                  | true =>
                    have HNW := hid (show n + cntS (i : Int) (l'.take (j + 1)) = N + 1 from by rw [HTK.out, HN.out, HNM.out, hb1, hb2]; rfl)
                    go_wp2
                    go_roundw
                    case rel => exact ⟨j + 1, by omega, by rw [HNW.out]; go_num, by go_num, trivial⟩
                    case measure => simp [intOf]; omega
              · obtain rfl : j = l'.length := by omega
                rw [List.take_length]
                obtain ⟨N, hN⟩ : ∃ N, N = n + cntS (i : Int) l' := ⟨_, rfl⟩
                rw [← hN]
                have HN := hid hN
                have q0 : wr.cell? ⟨tb, 0, none⟩ = some (.pointer (some ⟨b, 0, none⟩)) := by rw [cell_of HB.out]; rfl
                have q1 : wr.cell? ⟨tb, 1, none⟩ = some (.pointer (some ⟨rb, 0, none⟩)) := by rw [cell_of HB.out]; rfl
                have tz : tb < wr.heap.size := lt_of_block HB.out
                clear hN hj hjl
                go_wp2_with fail
                refine (fw_set HF.out HC.out HI.out (1 + (k : Int)) HWK.out a cp l' HRW.out HOB.out HWF.out hl60 (i : Int) (by omega)).mono ?_
                rintro e w5 ⟨rfl, ws5, hf5, hk5⟩
                rw [← HN.out] at hf5
                have hb5 := hk5.loc HB.out rfl
                have q0 : w5.cell? ⟨tb, 0, none⟩ = some (.pointer (some ⟨b, 0, none⟩)) := by rw [cell_of hb5]; rfl
                have tz5 : tb < w5.heap.size := lt_of_block hb5
                have HF5 := hid hf5
                have HB5 := hid hb5
                clear hf5 hb5 hk5 q1 tz
                go_wp2_with fail
                refine (fw_mem HF5.out).mono ?_
                rintro e w6 ⟨rfl, rfl⟩
                go_wp2_with fail
                refine (fw_words HF5.out HC.out).mono ?_
                rintro e w6 ⟨g, rfl, hg, hgz, hk6⟩
                have HF6 := hid (HF5.out.loc (L' := fun q => q = tb ∨ q = g) (hk6.mono (fun _ _ h => h.elim)) (fun q e => e.elim .inl (fun e => .inr (by subst e; exact ⟨hgz, lt_of_block hg⟩))))
                have HB6 := hid (hk6.at HB5.out (fun h => h))
                have HG := hid hg
                clear hg hgz hk6 HF5 HB5
                go_wp2_with fail
                refine (fw_next HF6.out).mono ?_
                rintro e w7 ⟨rfl, rfl⟩
                go_wp2_with fail
                refine (fw_step HF6.out HC.out HI.out he (by omega)).mono ?_
                obtain ⟨s', hs'⟩ : ∃ s', s' = s.step c.lk (s.word (c.tow k) c.descs ws5) := ⟨_, rfl⟩
                rw [← hs']
                clear hs'
                rintro e w7 ⟨rfl, hf7, hk7⟩
                have hb7 := hk7.loc HB6.out (.inl rfl)
                have hg7 := hk7.loc HG.out (.inr rfl)
                have q07 : w7.cell? ⟨tb, 0, none⟩ = some (.pointer (some ⟨b, 0, none⟩)) := by rw [cell_of hb7]; rfl
                have tz7 : tb < w7.heap.size := lt_of_block hb7
                have HF7 := hid hf7
                have HB7 := hid hb7
                have HG7 := hid hg7
                have dnn : (s.next != s.next) = false := by simp
                clear hf7 hb7 hg7 hk7 HF6 HB6 HG q0 tz5
                go_upto_region 25 with fail
                go_cut [126] (fun v wx => v = .bool false ∧ w7 = wx)
                case first =>
                  by_cases hi0 : i = 0
                  · have ei : ((i : Int) == 0) = true := beq_iff_eq.2 (by omega)
                    have e23 : (s.next != 23) = false := by rw [H0.out hi0]; rfl
                    clear hi0
                    go_wp2
                    go_meet
                    exact ⟨rfl, rfl⟩
                  · have ei : ((i : Int) == 0) = false := beq_eq_false_iff_ne.2 (by omega)
                    clear hi0
                    go_wp2
                    go_meet
                    exact ⟨rfl, rfl⟩
                case rest =>
                  obtain ⟨rfl, rfl⟩ := hcut
                  clear dnn
                  go_wp2_with fail
                  refine (fw_mem HF7.out).mono ?_
                  rintro e w8 ⟨rfl, rfl⟩
                  go_wp2_with fail
                  refine (fw_words HF7.out HC.out).mono ?_
                  rintro e w8 ⟨g2, rfl, hg2, hgz, hk8⟩
                  have HF8 := hid ((HF7.out.quiet hk8).less (L' := fun q => q = tb) (fun q e => .inl e))
                  have HB8 := hid (hk8.at HB7.out (fun h => h))
                  have HG8 := hid (hk8.at HG7.out (fun h => h))
                  have HG2 := hid hg2
                  have dnw : ((c.words : Int) != (c.words : Int)) = false := by simp
                  clear hg2 hgz hk8 HF7 HB7 HG7 q07 tz7
                  go_wp2
                  go_loopw [21] (fun kv wz => ∃ j : Nat, j ≤ c.words ∧ kv = .int .i64 j ∧ Keep Nil w8 wz) (fun kv _ => c.words - (intOf kv).toNat)
                  case atStart => exact ⟨0, Nat.zero_le _, rfl, Keep.refl Nil w8⟩
                  case round =>
                    obtain ⟨j, hj, rfl, hkk⟩ := hrel
                    have HKK := hid hkk
                    clear hkk
                    by_cases hjw : j < c.words
                    · obtain ⟨v, hv⟩ : ∃ v, ws5[j]? = some v := ⟨_, List.getElem?_eq_getElem (by rw [HF8.out.wd.len]; exact hjw)⟩
                      have v1 : wr.cell? ⟨g, j, none⟩ = some (.int .u64 v) := by rw [cell_of (HKK.out.at HG8.out (fun h => h))]; simpa using u64s_at hv
                      have v2 : wr.cell? ⟨g2, j, none⟩ = some (.int .u64 v) := by rw [cell_of (HKK.out.at HG2.out (fun h => h))]; simpa using u64s_at hv
                      have k0 : (0 : Int) ≤ (j : Int) := by omega
                      have k1 : (j : Int) < (c.words : Int) := by omega
                      have wk : IntKind.i64.wrap ((j : Int) + 1) = (j : Int) + 1 := by rw [IntKind.wrap_i64]; have := words_le c HC.out; omega
                      have dvv : (v != v) = false := by simp
                      clear hv
                      go_wp2
                      go_quiet (fail)
                      go_wp2
                      go_roundw
                      case rel => exact ⟨j + 1, by omega, by go_num, HKK.out.drewN _⟩
                      case measure => simp [intOf]; omega
                    · have wk : IntKind.i64.wrap ((i : Int) + 1) = (i : Int) + 1 := by rw [IntKind.wrap_i64]; omega
                      go_wp2
                      go_roundw
                      case rel =>
                        refine ⟨i + 1, N, s', ws5, by omega, rfl, by go_num, ?_, HKK.out.at HB8.out (fun h => h), fun e => absurd e (by omega)⟩
                        have h9 := HF8.out.quiet HKK.out
                        rw [show 61 * (i + 1) = 61 * i + 60 + 1 by omega]
                        exact h9
                      case measure => simp [intOf]; omega
        · obtain rfl : i = 100 := by have := HIL.out; omega
          have HK5 := hid (Keep.refl Nil wr)
          cases he : s.ended with
          | true =>
            clear hlt HK5
            go_wp2_with fail
            refine (fw_res1 HF.out he).mono ?_
            rintro e w5 ⟨rfl, hk5⟩
            have HK5 := hid hk5
            clear hk5
            have HO := hid (HF.out.fi.over he)
            have dl : decide (s.fails ≤ (n : Int)) = true := decide_eq_true HF.out.fi.le
            rcases HO.out.2 with ⟨h11, hq0, hfq, hv0, hp0⟩ | ⟨h0e, hq⟩
            · have e8 : (s.err == 8) = false := beq_eq_false_iff_ne.2 (by omega)
              have e11 : (s.err == 11) = true := beq_iff_eq.2 h11
              have e0 : (s.err == 0) = false := beq_eq_false_iff_ne.2 (by omega)
              have dq : decide (0 < q) = true := decide_eq_true hq0
              have efq : (s.fails == q) = true := beq_iff_eq.2 hfq
              have ev : (s.value == 0) = true := beq_iff_eq.2 hv0
              clear h11 hq0 hfq hv0
              go_wp2_with fail
              refine (lawake_ok).mono ?_
              rintro e w9 ⟨rfl, hk9⟩
              have HK9 := hid (HK1W.out.trans (HF.out.own.trans (HK5.out.trans hk9 (fun _ _ h => h)) (fun _ _ h => h)) (fun _ _ h => h))
              clear hk9
              go_wp2
              go_ret
              exact ⟨rfl, HK9.out⟩
            · have e8 : (s.err == 8) = false := beq_eq_false_iff_ne.2 (by omega)
              have e11 : (s.err == 11) = false := beq_eq_false_iff_ne.2 (by omega)
              have e0 : (s.err == 0) = true := beq_iff_eq.2 h0e
              rcases (show q = 0 ∨ (0 < q ∧ s.fails ≠ q) by have := HQ.out; omega) with hq0 | ⟨hq1, hfq⟩
              · have dq : decide (0 < q) = false := decide_eq_false (by omega)
                clear h0e hq hq0
                go_wp2_with fail
                refine (lawake_ok).mono ?_
                rintro e w9 ⟨rfl, hk9⟩
                have HK9 := hid (HK1W.out.trans (HF.out.own.trans (HK5.out.trans hk9 (fun _ _ h => h)) (fun _ _ h => h)) (fun _ _ h => h))
                clear hk9
                go_wp2
                go_ret
                exact ⟨rfl, HK9.out⟩
              · have dq : decide (0 < q) = true := decide_eq_true hq1
                have efq : (s.fails == q) = false := beq_eq_false_iff_ne.2 hfq
                clear h0e hq hq1 hfq
                go_wp2_with fail
                refine (lawake_ok).mono ?_
                rintro e w9 ⟨rfl, hk9⟩
                have HK9 := hid (HK1W.out.trans (HF.out.own.trans (HK5.out.trans hk9 (fun _ _ h => h)) (fun _ _ h => h)) (fun _ _ h => h))
                clear hk9
                go_wp2
                go_ret
                exact ⟨rfl, HK9.out⟩
          | false =>
            clear hlt
            go_wp2_with fail
            refine (fw_res0 HF.out he).mono ?_
            rintro e w5 ⟨rfl, rfl⟩
            go_wp2_with fail
            refine (lawake_ok).mono ?_
            rintro e w9 ⟨rfl, hk9⟩
            have HK9 := hid (HK1W.out.trans (HF.out.own.trans (HK5.out.trans hk9 (fun _ _ h => h)) (fun _ _ h => h)) (fun _ _ h => h))
            clear hk9
            go_wp2
            go_ret
            exact ⟨rfl, HK9.out⟩
end
end Go.Proofs.YtmafdjhjmnghcaaGreat
