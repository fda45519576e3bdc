/- ReadMatches: a read is that of the specification, step by step: the walk. -/
import Derived.Test.YtmafdjhjmnghcaaGreatRef01
import Derived.Test.YtmafdjhjmnghcaaGreatSmallOk
import Derived.Test.YtmafdjhjmnghcaaGreatInitFacts
import Derived.Test.YtmafdjhjmnghcaaGreatOpenRSet
import Derived.Deep.RegionHeld3
import Derived.Deep.DeepCutAuto
set_option linter.unusedVariables false
set_option linter.unusedSimpArgs false
namespace Go.Proofs.YtmafdjhjmnghcaaGreat
open Go.RowKit Go.Lf
section
theorem cell_ltM {W : World} {b i : Nat} {v : Value} (h : W.cell? ⟨b, i, none⟩ = some v) : b < W.heap.size := by
  rcases Nat.lt_or_ge b W.heap.size with h1 | h1
  · exact h1
  · exfalso
    have : W.heap[b]? = none := Array.getElem?_eq_none h1
    simp [World.cell?, this] at h
theorem rd_takeM {w : World} {a : Option Addr} {cp : Nat} {l : List SetV} (h : Rd w 4 (.slice a l.length cp) l.length (setCells l)) (m : Nat) (hm : m ≤ l.length) : Rd w 4 (.slice a m cp) m (setCells (l.take m)) := by
  have hlen : ∀ l : List SetV, (setCells l).length = l.length * 4 := fun l => by
    induction l with
    | nil => rfl
    | cons x l ih => simp only [setCells, List.flatMap_cons, List.length_append, List.length_cons] at ih ⊢; rw [ih, show x.cells.length = 4 from rfl]; omega
  have hap : setCells l = setCells (l.take m) ++ setCells (l.drop m) := by
    unfold setCells
    rw [← List.flatMap_append, List.take_append_drop]
  obtain ⟨a', c', hv, hl, h⟩ := h
  cases hv
  refine ⟨a, cp, rfl, by rw [hlen, List.length_take]; omega, ?_⟩
  rcases h with ⟨h1, h2, h3⟩ | ⟨b, off, h1, h2⟩ | ⟨h1, h2⟩
  · exact .inl ⟨h1, by omega, h3⟩
  · refine .inr (.inl ⟨b, off, h1, fun j u hu => h2 j u ?_⟩)
    rw [hap, List.getElem?_append_left (List.getElem?_eq_some_iff.1 hu).1]
    exact hu
  · exact .inr (.inr ⟨h1, by omega⟩)
set_option maxRecDepth 100000 in
set_option maxHeartbeats 8000000 in
theorem walk_rmatch (w : World) (z : ConfV) (hz : ConfArg w z) (x : RArg) (hx : x.wf) (va : Value) (l : List SetV) (rd : Rd w 4 va l.length (setCells l)) (bd : ∀ y ∈ l, SetV.wf y) (ml : l.length ≤ maxLen ∧ CapOk va) :
    Calls Tryz.prog 11 #[z.val, .agg x.cells.toArray, va] w fun e w' => e = .returned (.bool true) ∧ Keep Nil w w' := by
  obtain ⟨th, tw, tr⟩ := x
  obtain ⟨b1, b2, b3⟩ := hx
  obtain ⟨tw0, tw1⟩ := i64_wf b2
  obtain ⟨tr0, tr1⟩ := i64_wf b3
  obtain ⟨a, cp, rfl, -, -⟩ := id rd
  have HRD := hid rd
  have HBD := hid bd
  have HML := hid ml.1
  have hcp : l.length ≤ cp := ml.2 a l.length cp rfl
  have HZ := hid hz
  have HC0 := hid z.ok
  obtain ⟨th0, th1⟩ := i64_wf b1
  clear hz rd bd ml b1 b2 b3
  show Calls Tryz.prog 11 #[z.val, .agg #[.int .i64 th, .int .i64 tw, .int .i64 tr], .slice a l.length cp] w fun e w' => e = .returned (.bool true) ∧ Keep Nil w w'
  unfold ConfV.val
  go_enter Tryz.func11, Tryz.ntmps11
  obtain ⟨wb, hwb⟩ : ∃ wb, wb = (w.alloc (.cells #[.int .i64 z.th, .int .i64 z.sl, .int .u8 z.eng, .int .i64 z.bk, .int .u8 z.k, .int .i64 z.n, .slice z.a z.cuts.length z.cp, .int .i64 z.t1, .int .i64 z.t2, .int .i64 z.t3, .int .i64 z.t4, .int .i64 z.t5, .int .i64 z.t6, .int .i64 z.lk, .int .i64 z.tr, .int .i64 z.ba] 45)).alloc (.cells #[.int .i64 th, .int .i64 tw, .int .i64 tr] 78) := ⟨_, rfl⟩
  have hb0 := heap_alloc_new (w.alloc (.cells #[.int .i64 z.th, .int .i64 z.sl, .int .u8 z.eng, .int .i64 z.bk, .int .u8 z.k, .int .i64 z.n, .slice z.a z.cuts.length z.cp, .int .i64 z.t1, .int .i64 z.t2, .int .i64 z.t3, .int .i64 z.t4, .int .i64 z.t5, .int .i64 z.t6, .int .i64 z.lk, .int .i64 z.tr, .int .i64 z.ba] 45)) (.cells #[.int .i64 th, .int .i64 tw, .int .i64 tr] 78)
  rw [World.size_alloc, ← hwb] at hb0
  have HB0 := hid hb0
  have HKW := hid (show Keep Nil w wb from hwb ▸ ((Keep.refl Nil w).alloc _).alloc _)
  go_wp2_with fail
  rw [← hwb]
  clear hb0 hwb
  refine (small_ok z (HZ.out.keep HKW.out)).mono ?_
  rintro e w1 ⟨a1, cp1, rfl, hr1, hk1, -⟩
  have HR1 := hid hr1
  have HK1 := hid (HKW.out.trans hk1 (fun _ _ h => h))
  have HB1 := hid (hk1.at HB0.out (fun h => h))
  clear hr1 hk1
  go_wp2_with fail
  refine (open2_ok z.c z.ok _ _ _ _ _ _ rfl a1 cp1 HR1.out).mono ?_
  rintro e w2 ⟨b, mb, rb, rm, rfl, htwo⟩
  have HTWO := hid htwo
  have HB2 := hid (htwo.own.at HB1.out (fun h => h))
  have hbz : w.heap.size + 1 < w2.heap.size := lt_of_block HB2.out
  clear htwo HB0 HKW
  obtain ⟨c, hc⟩ : ∃ c, c = z.c := ⟨_, rfl⟩
  rw [← hc] at HTWO HC0
  obtain ⟨V1, hV1⟩ : ∃ V : Value, V = cfgV z.c (z.t1 % 7).toNat (z.t2 % 7).toNat (z.t3 % 7).toNat (z.t4 % 7).toNat (z.t5 % 7).toNat (z.t6 % 7).toNat a1 cp1 := ⟨_, rfl⟩
  rw [← hV1]
  clear hc hV1 HR1 HZ
  go_upto_region 2 with fail
  obtain ⟨W, hW⟩ : ∃ W, W = w2.alloc (.cells #[.pointer (some ⟨b, 0, none⟩), .pointer (some ⟨rb, 0, none⟩)] 96) := ⟨_, rfl⟩
  rw [← hW]
  have h1 := (T2.init (O := ReadO b) (O' := RReadO rb) HTWO.out).own1 (.cells #[.pointer (some ⟨b, 0, none⟩), .pointer (some ⟨rb, 0, none⟩)] 96)
  have hbx := heap_alloc_new w2 (.cells #[.pointer (some ⟨b, 0, none⟩), .pointer (some ⟨rb, 0, none⟩)] 96)
  have hkw := (Keep.refl Nil w2).alloc (.cells #[.pointer (some ⟨b, 0, none⟩), .pointer (some ⟨rb, 0, none⟩)] 96)
  rw [← hW] at h1 hbx hkw
  clear hW
  obtain ⟨tb, htb⟩ : ∃ tb, tb = w2.heap.size := ⟨_, rfl⟩
  rw [← htb] at h1 hbx ⊢
  have HT := hid (h1.less (L' := fun k => k = tb) (fun k e => .inr e))
  have HBX := hid hbx
  have HBA := hid (hkw.at HB2.out (fun h => h))
  have HK1W := hid (show Keep Nil w w1 from HK1.out)
  have c0 : W.cell? ⟨tb, 0, none⟩ = some (.pointer (some ⟨b, 0, none⟩)) := by rw [cell_of hbx]; rfl
  have c1 : W.cell? ⟨tb, 1, none⟩ = some (.pointer (some ⟨rb, 0, none⟩)) := by rw [cell_of hbx]; rfl
  have g0 : W.cell? ⟨w.heap.size + 1, 0, none⟩ = some (.int .i64 th) := by rw [cell_of HBA.out]; rfl
  have g1 : W.cell? ⟨w.heap.size + 1, 1, none⟩ = some (.int .i64 tw) := by rw [cell_of HBA.out]; rfl
  have g2 : W.cell? ⟨w.heap.size + 1, 2, none⟩ = some (.int .i64 tr) := by rw [cell_of HBA.out]; rfl
  clear h1 hbx hkw htb HB2 hbz HTWO HK1
  have HC := hid HC0.out
  have hnt := HC.out.nT
  clear HC0
  have hml := HML.out
  by_cases harg : th < 0 ∨ 64 ≤ th ∨ tr < 0 ∨ 255 < tr
  · have HARG := hid harg
    clear harg hml
    go_wp2_with fail
    refine (rdnew_arg (b := b) th tw tr HARG.out).mono ?_
    rintro e w3 ⟨rfl, rfl⟩
    go_wp2_with fail
    refine (r25new_arg (rb := rb) th tw tr HARG.out).mono ?_
    rintro e w3 ⟨rfl, rfl⟩
    go_upto_region 8 with fail
    have hml := HML.out
    unfold maxLen at hml
    go_cut [2] (fun v wx => W = wx)
    case first =>
      rcases (show l.length < 60 ∨ l.length = 60 ∨ 60 < l.length by omega) with h60 | h60 | h60
      · have i1 : ((60 : Int) < (l.length : Int)) = False := eq_false (by omega)
        have i2 : ((l.length : Int) < 60) = True := eq_true (by omega)
        have i3 : (l.length : Int) ≤ (cp : Int) := by omega
        go_wp2
        go_meet
        rfl
      · have i1 : ((60 : Int) < (l.length : Int)) = False := eq_false (by omega)
        have i2 : ((l.length : Int) < 60) = False := eq_false (by omega)
        have i3 : (l.length : Int) ≤ (cp : Int) := by omega
        have i4 : (60 : Int) ≤ (cp : Int) := by omega
        go_wp2
        go_meet
        rfl
      · have i1 : ((60 : Int) < (l.length : Int)) = True := eq_true (by omega)
        have i2 : ((l.length : Int) < 60) = False := eq_false (by omega)
        have i3 : (60 : Int) ≤ (cp : Int) := by omega
        go_wp2
        go_meet
        rfl
    case rest =>
      obtain rfl := hcut
      go_wp2
      go_loopw [13] (fun iv wz => iv = .int .i64 0 ∧ W = wz) (fun _ _ => 0)
      case atStart => exact ⟨rfl, rfl⟩
      case round =>
        obtain ⟨rfl, rfl⟩ := hrel
        go_wp2_with fail
        refine (t2_same HT.out HC.out (by show (ints c.init).length ≤ _; rw [init_length]; have := words_le c HC.out; omega) (by show (0 : Nat) < _; omega)).mono ?_
        rintro e w4 ⟨rfl, hk⟩
        have HKZ := hid (HK1W.out.trans (HT.out.own.trans hk (fun _ _ h => h)) (fun _ _ h => h))
        clear hk
        go_wp2_with fail
        refine (lawake_ok).mono ?_
        rintro e w20 ⟨rfl, hk⟩
        have HK9 := hid (HKZ.out.trans hk (fun _ _ h => h))
        clear hk
        go_wp2
        go_ret
        exact ⟨rfl, HK9.out⟩
  · by_cases hrng : tw < 1 ∨ (c.nT : Int) < tw
    · have HRNG := hid hrng
      have HTH := hid (show (0 ≤ th ∧ th < 64) ∧ 0 ≤ tr ∧ tr ≤ 255 by omega)
      obtain ⟨A9, l9, F9, G9, hsp⟩ := T2.sp HT.out
      obtain ⟨l8, hrl8, hrz⟩ := T2.rl HT.out
      have HSP := hid hsp
      have HRL8 := hid (hrl8 _ (Keep.refl Nil W))
      clear harg hrng hml hsp hrl8
      go_wp2_with fail
      refine (rdnew_range HSP.out HC.out th tw tr HTH.out.1.1 HTH.out.1.2 HTH.out.2.1 HTH.out.2.2 HRNG.out).mono ?_
      rintro e w3 ⟨rfl, rfl⟩
      go_wp2_with fail
      refine (r25new_range HRL8.out.1 HRL8.out.2 hrz th tw tr HTH.out.1.1 HTH.out.1.2 HTH.out.2.1 HTH.out.2.2 HRNG.out).mono ?_
      rintro e w3 ⟨rfl, rfl⟩
      go_upto_region 8 with fail
      have hml := HML.out
      unfold maxLen at hml
      go_cut [2] (fun v wx => W = wx)
      case first =>
        rcases (show l.length < 60 ∨ l.length = 60 ∨ 60 < l.length by omega) with h60 | h60 | h60
        · have i1 : ((60 : Int) < (l.length : Int)) = False := eq_false (by omega)
          have i2 : ((l.length : Int) < 60) = True := eq_true (by omega)
          have i3 : (l.length : Int) ≤ (cp : Int) := by omega
          go_wp2
          go_meet
          rfl
        · have i1 : ((60 : Int) < (l.length : Int)) = False := eq_false (by omega)
          have i2 : ((l.length : Int) < 60) = False := eq_false (by omega)
          have i3 : (l.length : Int) ≤ (cp : Int) := by omega
          have i4 : (60 : Int) ≤ (cp : Int) := by omega
          go_wp2
          go_meet
          rfl
        · have i1 : ((60 : Int) < (l.length : Int)) = True := eq_true (by omega)
          have i2 : ((l.length : Int) < 60) = False := eq_false (by omega)
          have i3 : (60 : Int) ≤ (cp : Int) := by omega
          go_wp2
          go_meet
          rfl
      case rest =>
        obtain rfl := hcut
        go_wp2
        go_loopw [13] (fun iv wz => iv = .int .i64 0 ∧ W = wz) (fun _ _ => 0)
        case atStart => exact ⟨rfl, rfl⟩
        case round =>
          obtain ⟨rfl, rfl⟩ := hrel
          go_wp2_with fail
          refine (t2_same HT.out HC.out (by show (ints c.init).length ≤ _; rw [init_length]; have := words_le c HC.out; omega) (by show (0 : Nat) < _; omega)).mono ?_
          rintro e w4 ⟨rfl, hk⟩
          have HKZ := hid (HK1W.out.trans (HT.out.own.trans hk (fun _ _ h => h)) (fun _ _ h => h))
          clear hk
          go_wp2_with fail
          refine (lawake_ok).mono ?_
          rintro e w20 ⟨rfl, hk⟩
          have HK9 := hid (HKZ.out.trans hk (fun _ _ h => h))
          clear hk
          go_wp2
          go_ret
          exact ⟨rfl, HK9.out⟩
    · obtain ⟨k, hk⟩ : ∃ k : Nat, tw = (k : Int) + 1 := ⟨(tw - 1).toNat, by omega⟩
      have HI := hid (show k < c.nT by omega)
      have HKE := hid hk
      have HTH := hid (show (0 ≤ th ∧ th < 64) ∧ 0 ≤ tr ∧ tr ≤ 255 by omega)
      have HTW := hid (show 1 ≤ tw ∧ tw ≤ (c.nT : Int) by omega)
      have HZ1 := hid (show w.heap.size + 1 < w1.heap.size from lt_of_block HB1.out)
      clear harg hrng hk hml
      go_wp2_with fail
      refine (tw_new HT.out HC.out th tw tr HTH.out.1.1 HTH.out.1.2 HTH.out.2.1 HTH.out.2.2 HTW.out.1 HTW.out.2).mono ?_
      rintro e w4 ⟨rfl, ht4, hk4⟩
      have hb4 := hk4.loc HBX.out rfl
      have ha4 := hk4.at HBA.out (fun e => by have := e.2; have := HZ1.out; omega)
      obtain ⟨r, hr⟩ : ∃ r, W.heap.size = r := ⟨_, rfl⟩
      rw [hr] at ht4 ⊢
      have HT4 := hid ht4
      have HB4 := hid hb4
      have x0 : w4.cell? ⟨tb, 0, none⟩ = some (.pointer (some ⟨b, 0, none⟩)) := by rw [cell_of hb4]; rfl
      have x1 : w4.cell? ⟨tb, 1, none⟩ = some (.pointer (some ⟨rb, 0, none⟩)) := by rw [cell_of hb4]; rfl
      have y0 : w4.cell? ⟨w.heap.size + 1, 0, none⟩ = some (.int .i64 th) := by rw [cell_of ha4]; rfl
      have y1 : w4.cell? ⟨w.heap.size + 1, 1, none⟩ = some (.int .i64 tw) := by rw [cell_of ha4]; rfl
      have y2 : w4.cell? ⟨w.heap.size + 1, 2, none⟩ = some (.int .i64 tr) := by rw [cell_of ha4]; rfl
      have tz4 : tb < w4.heap.size := lt_of_block hb4
      have az4 : w.heap.size + 1 < w4.heap.size := lt_of_block ha4
      clear ht4 hk4 hb4 ha4 c0 c1 g0 g1 g2 HT HBX HBA hr
      go_wp2_with fail
      refine (tm_new HT4.out HC.out th tw tr HTH.out.1.1 HTH.out.1.2 HTH.out.2.1 HTH.out.2.2 (List.getElem?_eq_getElem HI.out) HKE.out).mono ?_
      rintro e w5 ⟨rfl, ht5, hk5⟩
      have hb5 := hk5.loc HB4.out rfl
      obtain ⟨q, hq⟩ : ∃ q, w4.heap.size = q := ⟨_, rfl⟩
      rw [hq] at ht5 ⊢
      have HF5 := hid (FM.mk (k := k) (m := 61 * 0) ⟨(ints c.init, []), ht5, WdOk.init HC.out, Nat.le_refl 0⟩ (fun _ => init_good ..) (fun e => by cases e) HKE.out HTH.out.1 ⟨Int.le_refl 0, Int.le_refl 0⟩)
      have HB5 := hid hb5
      clear ht5 hk5 hb5 x0 x1 y0 y1 y2 tz4 az4 HT4 HB4 hq
      go_upto_region 8 with fail
      have hml := HML.out
      unfold maxLen at hml
      go_cut [2] (fun v wx => v = .slice a (min l.length 60) cp ∧ w5 = wx)
      case first =>
        rcases (show l.length < 60 ∨ l.length = 60 ∨ 60 < l.length by omega) with h60 | h60 | h60
        · have E60 := hid (show min l.length 60 = l.length by omega)
          have i1 : ((60 : Int) < (l.length : Int)) = False := eq_false (by omega)
          have i2 : ((l.length : Int) < 60) = True := eq_true (by omega)
          have i3 : (l.length : Int) ≤ (cp : Int) := by omega
          go_wp2
          go_meet
          exact ⟨by rw [E60.out], rfl⟩
        · have E61 := hid (show min l.length 60 = 60 by omega)
          have i1 : ((60 : Int) < (l.length : Int)) = False := eq_false (by omega)
          have i2 : ((l.length : Int) < 60) = False := eq_false (by omega)
          have i3 : (l.length : Int) ≤ (cp : Int) := by omega
          have i4 : (60 : Int) ≤ (cp : Int) := by omega
          go_wp2
          go_meet
          exact ⟨by rw [E61.out], rfl⟩
        · have E60 := hid (show min l.length 60 = 60 by omega)
          have i1 : ((60 : Int) < (l.length : Int)) = True := eq_true (by omega)
          have i2 : ((l.length : Int) < 60) = False := eq_false (by omega)
          have i3 : (60 : Int) ≤ (cp : Int) := by omega
          go_wp2
          go_meet
          exact ⟨by rw [E60.out], rfl⟩
      case rest =>
        obtain ⟨rfl, rfl⟩ := hcut
        obtain ⟨l', hl'⟩ : ∃ l', l' = l.take 60 := ⟨_, rfl⟩
        have hlen : min l.length 60 = l'.length := by rw [hl', List.length_take]; omega
        have hrt := rd_takeM HRD.out (min l.length 60) (by omega)
        have htk : l.take (min l.length 60) = l' := by
          rw [hl']
          by_cases h : l.length ≤ 60
          · rw [Nat.min_eq_left h, List.take_length, List.take_of_length_le h]
          · rw [Nat.min_eq_right (by omega)]
        rw [htk, hlen] at hrt
        rw [hlen]
        have HRL := hid hrt
        have HWF := hid (show ∀ y ∈ l', SetV.wf y from fun y hy => HBD.out y (by rw [hl'] at hy; exact List.mem_of_mem_take hy))
        have hl60 : l'.length ≤ 60 := by omega
        have HOB := hid (show ∀ q, 0 < l'.length → (Value.slice a l'.length cp).ownBlock = some q → ¬ Out w1 (fun k => k = tb) q from fun q h0 e ho => by
          have hz1 := HK1W.out.size
          obtain ⟨b2, off, cc, hv, hcell⟩ := Rd.cell HRD.out (by omega)
          cases hv
          have h2 : b2 = q := by simpa [Value.ownBlock] using e
          obtain ⟨u, hu⟩ : ∃ u, (setCells l)[0]? = some u := by
            cases l with
            | nil => simp at hl'; rw [hl'] at h0; simp at h0
            | cons x l => exact ⟨_, rfl⟩
          have h3 := hcell 0 u hu
          have h4 : b2 < w.heap.size := cell_ltM h3
          have h5 := ho.2
          omega)
        clear hlen hrt htk hl' HRD HBD HML hcp hml
        go_wp2
        go_loopw [13] (fun iv wr => ∃ (i : Nat) (s : RS), i ≤ 100 ∧ iv = .int .i64 i ∧ FM w1 wr c b mb rb rm r q k tb (61 * i) s ∧ wr.heap[tb]? = some (.cells #[.pointer (some ⟨b, 0, none⟩), .pointer (some ⟨rb, 0, none⟩)] 96 (0, 0))) (fun iv _ => 100 - (intOf iv).toNat)
        case atStart => exact ⟨0, _, by omega, rfl, HF5.out, HB5.out⟩
        case round =>
          obtain ⟨i, s, hi, rfl, hf, hb⟩ := hrel
          have HF := hid hf
          have HB := hid hb
          have HIL := hid hi
          clear hf hb hi HF5 HB5
          by_cases hlt : i < 100
          · have d1 : decide ((i : Int) < 100) = true := decide_eq_true (by omega)
            have HRW := hid (rd_keep HRL.out (HK1W.out.trans HF.out.own (fun _ _ h => h)) (fun _ _ h => h))
            have hag := HF.out.own.at HB1.out (fun h => h)
            have y1 : wr.cell? ⟨w.heap.size + 1, 1, none⟩ = some (.int .i64 tw) := by rw [cell_of hag]; rfl
            have az : w.heap.size + 1 < wr.heap.size := lt_of_block hag
            have x0 : wr.cell? ⟨tb, 0, none⟩ = some (.pointer (some ⟨b, 0, none⟩)) := by rw [cell_of HB.out]; rfl
            have x1 : wr.cell? ⟨tb, 1, none⟩ = some (.pointer (some ⟨rb, 0, none⟩)) := by rw [cell_of HB.out]; rfl
            have tz : tb < wr.heap.size := lt_of_block HB.out
            clear hag
            go_wp2_with fail
            refine (fm_set HF.out HC.out HI.out tw HKE.out a cp l' HRW.out HOB.out HWF.out hl60 (i : Int) (by omega)).mono ?_
            rintro e w6 ⟨rfl, hf6, hk6⟩
            have hb6 := hk6.loc HB.out rfl
            have HF6 := hid hf6
            have HB6 := hid hb6
            clear hf6 hk6 hb6 y1 az x0 x1 tz HRW
            go_wp2_with fail
            refine (fm_same HF6.out).mono ?_
            rintro e w7 ⟨rfl, hk7⟩
            have HF7 := hid (HF6.out.quiet hk7)
            have HB7 := hid (hk7.at HB6.out (fun h => h))
            clear hk7 HF6 HB6
            cases he : s.ended with
            | true =>
              have x0 : w7.cell? ⟨tb, 0, none⟩ = some (.pointer (some ⟨b, 0, none⟩)) := by rw [cell_of HB7.out]; rfl
              go_wp2_with fail
              refine (fm_idleA HF7.out he).mono ?_
              rintro e w8 ⟨rfl, rfl⟩
              go_wp2_with fail
              refine (fm_idleB HF7.out he).mono ?_
              rintro e w8 ⟨rfl, rfl⟩
              go_wp2_with fail
              refine (fm_same HF7.out).mono ?_
              rintro e w17 ⟨rfl, hk17⟩
              have HF17 := hid (HF7.out.quiet hk17)
              have q017 : w17.cell? ⟨tb, 0, none⟩ = some (.pointer (some ⟨b, 0, none⟩)) := by rw [cell_of (hk17.at HB7.out (fun h => h))]; rfl
              have q117 : w17.cell? ⟨tb, 1, none⟩ = some (.pointer (some ⟨rb, 0, none⟩)) := by rw [cell_of (hk17.at HB7.out (fun h => h))]; rfl
              have tz17 : tb < w17.heap.size := lt_of_block (hk17.at HB7.out (fun h => h))
              clear hk17
              go_wp2_with fail
              refine (fm_all HF17.out HC.out (by omega)).mono ?_
              rintro e w18 ⟨rfl, hk18⟩
              have HKZ := hid (HK1W.out.trans (HF17.out.own.trans hk18 (fun _ _ h => h)) (fun _ _ h => h))
              clear hk18
              go_wp2_with fail
              refine (lawake_ok).mono ?_
              rintro e w20 ⟨rfl, hk⟩
              have HK9 := hid (HKZ.out.trans hk (fun _ _ h => h))
              clear hk
              go_wp2
              go_ret
              exact ⟨rfl, HK9.out⟩
            | false =>
              have HNX := hid (good_pos (HF7.out.going he))
              have dn1 : (s.next != s.next) = false := by simp
              have dn3 : (s.next == 0) = false := beq_eq_false_iff_ne.2 (by have := HNX.out; omega)
              go_wp2_with fail
              refine (fm_stepA HF7.out HC.out HI.out he (by omega)).mono ?_
              rintro e w8 ⟨s', rfl, hmid, hk8⟩
              have HMID := hid hmid
              have HB8 := hid (hk8.loc HB7.out rfl)
              clear hmid hk8
              go_wp2_with fail
              refine (fm_stepB HF7.out HMID.out HC.out HI.out he (by omega)).mono ?_
              rintro e w9 ⟨rfl, hf9, hk9⟩
              have HF9 := hid hf9
              have HB9 := hid (hk9.loc HB8.out rfl)
              have dn2 : (s'.ended != s'.ended) = false := by simp
              have wk : IntKind.i64.wrap ((i : Int) + 1) = (i : Int) + 1 := by rw [IntKind.wrap_i64]; omega
              clear hf9 hk9 HF7 HB7 HMID HB8
              go_wp2
              go_roundw
              case rel =>
                refine ⟨i + 1, s', by omega, by go_num, ?_, HB9.out⟩
                rw [show 61 * (i + 1) = 61 * i + 60 + 1 by omega]
                exact HF9.out
              case measure => simp [intOf]; omega
          · obtain rfl : i = 100 := by have := HIL.out; omega
            go_wp2_with fail
            refine (fm_same HF.out).mono ?_
            rintro e w17 ⟨rfl, hk17⟩
            have HF17 := hid (HF.out.quiet hk17)
            have q017 : w17.cell? ⟨tb, 0, none⟩ = some (.pointer (some ⟨b, 0, none⟩)) := by rw [cell_of (hk17.at HB.out (fun h => h))]; rfl
            have q117 : w17.cell? ⟨tb, 1, none⟩ = some (.pointer (some ⟨rb, 0, none⟩)) := by rw [cell_of (hk17.at HB.out (fun h => h))]; rfl
            have tz17 : tb < w17.heap.size := lt_of_block (hk17.at HB.out (fun h => h))
            clear hk17
            go_wp2_with fail
            refine (fm_all HF17.out HC.out (by omega)).mono ?_
            rintro e w18 ⟨rfl, hk18⟩
            have HKZ := hid (HK1W.out.trans (HF17.out.own.trans hk18 (fun _ _ h => h)) (fun _ _ h => h))
            clear hk18
            go_wp2_with fail
            refine (lawake_ok).mono ?_
            rintro e w20 ⟨rfl, hk⟩
            have HK9 := hid (HKZ.out.trans hk (fun _ _ h => h))
            clear hk
            go_wp2
            go_ret
            exact ⟨rfl, HK9.out⟩
end
end Go.Proofs.YtmafdjhjmnghcaaGreat
