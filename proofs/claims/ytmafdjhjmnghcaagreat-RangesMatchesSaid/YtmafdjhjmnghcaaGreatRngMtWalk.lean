/- RangesMatches: any sequence of calls is that of the specification: the walk. -/
import Derived.Test.YtmafdjhjmnghcaaGreatRngMR
import Derived.Test.YtmafdjhjmnghcaaGreatRngNm
import Derived.Test.YtmafdjhjmnghcaaGreatSmallOk
import Derived.Deep.RegionHeld3
import Derived.Deep.DeepCutAuto
import Derived.Deep.CutBlock
set_option linter.unusedVariables false
set_option linter.unusedSimpArgs false
namespace Go.Proofs.YtmafdjhjmnghcaaGreat
open Go.RowKit Go.Lf
/-- The call under way, in a block of the walk's own. -/
def KXAt (W : World) (xb : Nat) (x : KCallV) : Prop := W.heap[xb]? = some (.cells #[.int .u8 x.what, .int .i64 x.t, .int .i64 x.n, .int .u64 x.lo, .int .u64 x.hi] 107 (0, 0))
/-- The places, in a block of the walk's own. -/
def KPAt (W : World) (pb : Nat) (c : Cfg) : Prop := W.heap[pb]? = some (.cells (plcC c) 51 (0, 0))
theorem kconj5 {W : World} {L : Nat → Prop} {tb b rb xb : Nat} {va vb : Value} {xs : List LkC} {bl : List Nat} {x : KCallV} (hs : KR W L tb b rb va vb xs bl) (hx : KXAt W xb x) :
    W.cell? ⟨tb, 0, none⟩ = some (.pointer (some ⟨b, 0, none⟩)) ∧ W.cell? ⟨tb, 1, none⟩ = some (.pointer (some ⟨rb, 0, none⟩)) ∧ W.cell? ⟨xb, 1, none⟩ = some (.int .i64 x.t) ∧ W.cell? ⟨xb, 2, none⟩ = some (.int .i64 x.n) ∧ W.cell? ⟨xb, 3, none⟩ = some (.int .u64 x.lo) ∧ W.cell? ⟨xb, 4, none⟩ = some (.int .u64 x.hi) :=
  ⟨hs.c0.1, hs.c0.2.1, by rw [cell_of hx]; rfl, by rw [cell_of hx]; rfl, by rw [cell_of hx]; rfl, by rw [cell_of hx]; rfl⟩
theorem kconjP {W : World} {pb : Nat} {c : Cfg} (h : KPAt W pb c) : W.cell? ⟨pb, 2, none⟩ = some (.int .i64 (c.master : Int)) ∧ W.cell? ⟨pb, 4, none⟩ = some (.int .i64 (c.descs : Int)) := ⟨by rw [cell_of h]; rfl, by rw [cell_of h]; rfl⟩
theorem ksize2 {W : World} {L : Nat → Prop} {tb b rb xb : Nat} {va vb : Value} {xs : List LkC} {bl : List Nat} {x : KCallV} (hs : KR W L tb b rb va vb xs bl) (hx : KXAt W xb x) : tb < W.heap.size ∧ xb < W.heap.size := ⟨hs.c0.2.2, lt_of_block hx⟩
theorem KXAt.out {w W W' : World} {L : Nat → Prop} {xb : Nat} {x : KCallV} (h : KXAt W xb x) (hk : Keep (Out w L) W W') (hl : L xb) : KXAt W' xb x := hk.loc h hl
theorem KXAt.quiet {W W' : World} {xb : Nat} {x : KCallV} (h : KXAt W xb x) (hk : Keep Nil W W') : KXAt W' xb x := hk.at h (fun h => h)
theorem KPAt.out {w W W' : World} {L : Nat → Prop} {pb : Nat} {c : Cfg} (h : KPAt W pb c) (hk : Keep (Out w L) W W') (hl : L pb) : KPAt W' pb c := hk.loc h hl
theorem KPAt.quiet {W W' : World} {pb : Nat} {c : Cfg} (h : KPAt W pb c) (hk : Keep Nil W W') : KPAt W' pb c := hk.at h (fun h => h)
/-- A store in a word of the table, on both sides. -/
theorem k_store {w wr : World} {L : Nat → Prop} {c : Cfg} {b mb rb rm ll : Nat} {x : List Int × List Acc} {xs : List LkC} {qs : List KS} {bl : List Nat} (h : KMT w wr L c b mb rb rm ll x x xs qs bl) (k : Nat) (v : Int) (hk : k < x.1.length) (hl : x.2.length < 1000000000000) :
    Calls Tryz.prog 53 #[.agg #[.pointer (some ⟨b, 0, none⟩), .pointer (some ⟨rb, 0, none⟩)], .int .i64 0, .int .i64 k, .int .u64 v] wr fun e w' => e = .returned (.bool true) ∧ KMT w w' L c b mb rb rm ll (x.1.set k v, x.2 ++ [stAcc 0 k x.1 v]) (x.1.set k v, x.2 ++ [stAcc 0 k x.1 v]) xs qs bl ∧ Keep (Out w L) wr w' := by
  have hkt : ((k : Int)).toNat = k := Int.toNat_natCast k
  refine (g_store (memL_objsB (LkO b) c b mb) (rmemL_objs (RKO rb) c rb rm ll) (fun _ _ => rfl) (fun _ _ => rfl) h 0 (k : Int) v (by decide) (by decide) (Int.natCast_nonneg _) (by rw [hkt]; exact hk) (by rw [hkt]; exact hk) hl hl).mono ?_
  rintro e w' ⟨rfl, h1, h2⟩
  rw [hkt] at h1
  exact ⟨rfl, h1, h2⟩
/-- The cells of the reference's layout that are read. -/
theorem krl {w wr : World} {L : Nat → Prop} {c : Cfg} {b mb rb rm ll : Nat} {x y : List Int × List Acc} {xs : List LkC} {qs : List KS} {bl : List Nat} (h : KMT w wr L c b mb rb rm ll x y xs qs bl) : wr.cell? ⟨rb, 0, none⟩ = some (.pointer (some ⟨ll, 0, none⟩)) ∧ RLC wr ll c ∧ rb < wr.heap.size := by
  obtain ⟨B, F, G, hp⟩ := h.rp
  exact ⟨hp.c0, hp.rlc3, hp.bl⟩
/-- The row of ranges that the walk spoils. -/
def KHd (W : World) (z n : Nat) (a : Option Addr) : Prop := n = 0 ∨ ∃ (g : Nat) (cur : Array Value), a = some ⟨g, 0, none⟩ ∧ z ≤ g ∧ W.heap[g]? = some (.cells cur 28 (0, 0)) ∧ ∀ j, j < 2 * n → ∃ v : Int, cur[j]? = some (.int .u64 v)
theorem spn_u64 : ∀ (l : List (Int × Int)) (j : Nat), j < 2 * l.length → ∃ v : Int, (spnCells l)[j]? = some (.int .u64 v)
  | [], j, h => by simp at h
  | x :: l, 0, _ => ⟨x.1, rfl⟩
  | x :: l, 1, _ => ⟨x.2, rfl⟩
  | x :: l, j + 2, h => by
    obtain ⟨v, hv⟩ := spn_u64 l j (by simp at h; omega)
    exact ⟨v, by show (spnCells l)[j]? = _; exact hv⟩
theorem khd_of {w5 w7 : World} {z cp : Nat} {a : Option Addr} {hd : List (Int × Int)} (h : w5.ownsRow 0 28 2 (.slice a hd.length cp) hd.length (spnCells hd)) (hz : ∀ k, (Value.slice a hd.length cp).ownBlock = some k → z ≤ k) (hk : Keep Nil w5 w7) : KHd w7 z hd.length a := by
  rcases h.2 with ⟨e1, e2⟩ | ⟨g, cap, cur, e1, -, h2, -, -, -, h6⟩
  · exact .inl e2
  · simp only [Value.slice.injEq] at e1
    obtain ⟨rfl, -, -⟩ := e1
    refine .inr ⟨g, cur, rfl, hz g rfl, hk.at h2 (fun h => h), fun j hj => ?_⟩
    obtain ⟨v, hv⟩ := spn_u64 hd j hj
    refine ⟨v, ?_⟩
    rw [← h6, List.getElem?_take] at hv
    rw [if_pos (by omega)] at hv
    simpa using hv
section
set_option maxRecDepth 100000 in
set_option maxHeartbeats 16000000 in
theorem walk_rgmatch (w : World) (z : ConfV) (hz : ConfArg w z) (va : Value) (l : List KCallV) (rd : Rd w 5 va l.length (kcallCells l)) (bd : ∀ y ∈ l, KCallV.wf y) (ml : l.length ≤ maxLen) :
    Calls Tryz.prog 10 #[z.val, va] w fun e w' => e = .returned (.bool true) ∧ Keep Nil w w' := by
  obtain ⟨a, cp, rfl, -, -⟩ := id rd
  have HRD := hid rd
  have HBD := hid bd
  have HML := hid ml
  have HZ := hid hz
  have HC0 := hid z.ok
  clear hz rd bd ml
  unfold ConfV.val
  go_enter Tryz.func10, Tryz.ntmps10
  go_wp2_with fail
  refine (small_ok z (HZ.out.keep ((Keep.refl Nil w).alloc _))).mono ?_
  rintro e w1 ⟨a1, cp1, rfl, hr1, hk1, -⟩
  have HR1 := hid hr1
  have HK1 := hid (((Keep.refl Nil w).alloc _).trans hk1 (fun _ _ h => h))
  clear hr1 hk1
  go_wp2_with fail
  refine (open2_ok z.c z.ok _ _ _ _ _ _ rfl a1 cp1 HR1.out).mono ?_
  rintro e w2 ⟨b, mb, rb, rm, rfl, htwo0⟩
  obtain ⟨ll, htwo⟩ := two_rf htwo0
  clear htwo0
  have HTWO := hid htwo
  have HKW := hid (show Keep Nil w w1 from HK1.out)
  clear htwo HK1
  obtain ⟨c, hc⟩ : ∃ c, c = z.c := ⟨_, rfl⟩
  rw [← hc] at HTWO HC0
  obtain ⟨V1, hV1⟩ : ∃ V : Value, V = cfgV z.c (z.t1 % 7).toNat (z.t2 % 7).toNat (z.t3 % 7).toNat (z.t4 % 7).toNat (z.t5 % 7).toNat (z.t6 % 7).toNat a1 cp1 := ⟨_, rfl⟩
  rw [← hV1]
  clear hc hV1 HR1 HZ
  go_upto_region 2 with fail
  obtain ⟨W, hW⟩ : ∃ W, W = w2.alloc (.cells #[.pointer (some ⟨b, 0, none⟩), .pointer (some ⟨rb, 0, none⟩)] 96) := ⟨_, rfl⟩
  rw [← hW]
  have HC := hid HC0.out
  have HS0 := hid (KM.init HTWO.out HC.out hW)
  obtain ⟨tb, htb⟩ : ∃ tb, tb = w2.heap.size := ⟨_, rfl⟩
  rw [← htb] at HS0 ⊢
  clear hW htb HTWO HC0
  have HLK := hid (show 1 ≤ c.lk ∧ c.lk ≤ 16 ∧ c.master + 1 + c.lk * 3 = c.descs ∧ c.descs ≤ c.words ∧ c.words ≤ 65536 from by
    have h1 := c.le1; have h2 := c.le2; have h3 := c.le3
    have hq1 : c.locks + c.lk * 3 = c.descs := rfl
    have hq2 : c.descs + c.lk = c.pools := rfl
    have hq0 : c.master + 1 = c.locks := rfl
    have := words_le c HC.out
    exact ⟨HC.out.lk1, HC.out.lk2, by omega, by omega, by omega⟩)
  have hml := HML.out
  unfold maxLen at hml
  go_wp2
  go_loopw [7, 8, 9] (fun v7 v8 iv wz => ∃ (i : Nat) (va vb : Value), i ≤ l.length ∧ i ≤ 120 ∧ iv = .int .i64 i ∧ v7 = va ∧ v8 = vb ∧ Hid (KM w1 wz c b mb rb rm ll tb i va vb)) (fun _ _ i _ => 120 - (intOf i).toNat)
  case atStart => exact ⟨0, _, _, Nat.zero_le _, Nat.zero_le _, rfl, rfl, rfl, HS0⟩
  case round =>
    obtain ⟨i, va, vb, hi, hi8, rfl, hva, hvb, HSM⟩ := hrel
    obtain rfl : va = _ := hva.symm
    obtain rfl : vb = _ := hvb.symm
    clear HS0
    by_cases hlt : i < l.length ∧ i < 120
    · obtain ⟨hl1, hl2⟩ := hlt
      have i1 : ((i : Int) < (l.length : Int)) = True := eq_true (by omega)
      have i2 : ((i : Int) < 120) = True := eq_true (by omega)
      have d1 : decide ((i : Int) < (l.length : Int)) = true := decide_eq_true (by omega)
      have d2 : decide ((i : Int) < 120) = true := decide_eq_true (by omega)
      have wi : IntKind.i64.wrap ((i : Int) + 1) = (i : Int) + 1 := by rw [IntKind.wrap_i64]; omega
      obtain ⟨x, hx⟩ : ∃ x, l[i]? = some x := ⟨_, List.getElem?_eq_getElem hl1⟩
      obtain ⟨w1', w2', w3', w4', w5'⟩ := HBD.out x (List.mem_of_getElem? hx)
      obtain ⟨ab, ao, ac, hve, hcl⟩ := Rd.cell HRD.out (by omega)
      simp only [Value.slice.injEq] at hve
      obtain ⟨rfl, -, rfl⟩ := hve
      obtain ⟨x0, x1⟩ := u8_wf w1'
      have hkk : Keep Nil w wr := HKW.out.trans HSM.out.own (fun _ _ h => h)
      have q : ∀ j u, x.cells[j]? = some u → wr.cell? ⟨ab, ao + i * 5 + j, none⟩ = some u := fun j u hu => by rw [Nat.add_assoc]; exact hkk.cell (hcl _ _ (kcallCells_at hx hu)) (fun h => h)
      have q0 : wr.cell? ⟨ab, ao + i * 5, none⟩ = some (.int .u8 x.what) := q 0 _ rfl
      have q1 : wr.cell? ⟨ab, ao + i * 5 + 1, none⟩ = some (.int .i64 x.t) := q 1 _ rfl
      have q2 : wr.cell? ⟨ab, ao + i * 5 + 2, none⟩ = some (.int .i64 x.n) := q 2 _ rfl
      have q3 : wr.cell? ⟨ab, ao + i * 5 + 3, none⟩ = some (.int .u64 x.lo) := q 3 _ rfl
      have q4 : wr.cell? ⟨ab, ao + i * 5 + 4, none⟩ = some (.int .u64 x.hi) := q 4 _ rfl
      have HWF := hid (And.intro (i64_wf w2') (And.intro (i64_wf w3') (And.intro (u64_wf w4') (u64_wf w5'))))
      clear q hcl hkk w1' w2' w3' w4' w5' hx
      have i0 : (0 : Int) ≤ (i : Int) := by omega
      go_upto_region 10 with fail
      obtain ⟨W, hW⟩ : ∃ W, W = wr.alloc (.cells #[.int .u8 x.what, .int .i64 x.t, .int .i64 x.n, .int .u64 x.lo, .int .u64 x.hi] 107) := ⟨_, rfl⟩
      rw [← hW]
      obtain ⟨L0, X, xs, bl, ht0, hr0, hi0⟩ := HSM.out
      obtain ⟨qs, hqs⟩ : ∃ qs, qs = xs.map LkC.s := ⟨_, rfl⟩
      rw [← hqs] at ht0
      obtain ⟨xb, hxb⟩ : ∃ xb, xb = wr.heap.size := ⟨_, rfl⟩
      obtain ⟨L, hL⟩ : ∃ L : Nat → Prop, L = fun k => L0 k ∨ k = wr.heap.size := ⟨_, rfl⟩
      have HT := hid (show KMT w1 W L c b mb rb rm ll X X xs qs bl by rw [hL, hW]; exact g_own1 ht0 _)
      have HS := hid (show KR W L tb b rb va vb xs bl by rw [hL, hW]; exact (hr0.quiet ((Keep.refl Nil wr).alloc _)).more (fun k e => .inl e))
      have HX := hid (show KXAt W xb x by rw [hxb, hW]; exact heap_alloc_new wr _)
      have HLX := hid (show L xb by rw [hL]; exact .inr hxb)
      have HI := hid hi0
      have HQS := hid hqs
      have q0 : W.cell? ⟨xb, 0, none⟩ = some (.int .u8 x.what) := by rw [cell_of HX.out]; rfl
      rw [← hxb]
      clear hW hL hxb ht0 hr0 hi0 hqs q1 q2 q3 q4 HSM
      obtain ⟨c0, c1, g1, g2, g3, g4⟩ := kconj5 HS.out HX.out
      obtain ⟨z0, z1⟩ := ksize2 HS.out HX.out
      have HXS := hid (And.intro hi8 hl2)
      go_upto_block 2 with fail
      go_cut [7, 8] (fun v7 v8 wx => ∃ (va2 vb2 : Value), v7 = va2 ∧ v8 = vb2 ∧ Hid (KM w1 wx c b mb rb rm ll tb (i + 1) va2 vb2))
      case first =>
        by_cases d0 : x.what % 6 = 0
        · have e0 : (x.what % 6 == 0) = true := beq_iff_eq.2 d0
          clear d0
          obtain ⟨er, her⟩ : ∃ er, er = knErr x.t x.lo x.hi x.n := ⟨_, rfl⟩
          by_cases hne : er ≠ 0
          · as_aux_lemma =>
              have HA0 := hid (fun wr => k_newA0 b wr her hne)
              have HB0 := hid (fun wr => k_newB0 rb wr her hne)
              have ne1 : (er != er) = false := by simp
              clear hne her
              go_wp2_with fail
              refine (HA0.out W).mono ?_
              rintro e w3 ⟨rfl, hk3⟩
              have HT3 := hid (HT.out.quiet hk3)
              have HS3 := hid (HS.out.quiet hk3)
              have HX3 := hid (HX.out.quiet hk3)
              clear hk3 c0 c1 g1 g2 g3 g4 z0 z1 q0
              obtain ⟨c0, c1, g1, g2, g3, g4⟩ := kconj5 HS3.out HX3.out
              obtain ⟨z0, z1⟩ := ksize2 HS3.out HX3.out
              go_wp2_with fail
              refine (HB0.out w3).mono ?_
              rintro e w4 ⟨rfl, hk4⟩
              have HF := hid (show KM w1 w4 c b mb rb rm ll tb (i + 1) va vb from ⟨L, X, xs, bl, by rw [← HQS.out]; exact HT3.out.quiet hk4, HS3.out.quiet hk4, HI.out.mono (by omega)⟩)
              clear hk4
              go_wp2
              go_meet
              exact ⟨_, _, rfl, rfl, HF⟩
          · as_aux_lemma =>
              have her0 : knErr x.t x.lo x.hi x.n = 0 := by rw [← her]; exact Classical.not_not.1 hne
              have HER := hid her0
              clear hne her her0
              go_wp2_with fail
              refine (k_newA HT.out HER.out).mono ?_
              rintro e w3 ⟨o, ho1, he, ht3, hk3⟩
              unfold ptrV at he
              subst he
              have HT3 := hid ht3
              have HS3 := hid (HS.out.out hk3)
              have HX3 := hid (HX.out.out hk3 HLX.out)
              have HO := hid ho1
              clear ht3 hk3 ho1 c0 c1 g1 g2 g3 g4 z0 z1 q0
              obtain ⟨c0, c1, g1, g2, g3, g4⟩ := kconj5 HS3.out HX3.out
              obtain ⟨z0, z1⟩ := ksize2 HS3.out HX3.out
              go_wp2_with fail
              refine (k_newB HT3.out HER.out).mono ?_
              rintro e w4 ⟨p, he, ht4, hk4⟩
              unfold ptrV at he
              subst he
              rw [HQS.out, ← HO.out] at ht4
              have HT4 := hid ht4
              have HS4 := hid (HS3.out.out hk4)
              have hnum := HI.out.num
              have HLB := hid HI.out.lb
              clear ht4 hk4 c0 c1 g1 g2 g3 g4 z0 z1
              go_wp2_with (at_builtin; refine wpList_app _ rfl _ _ 62 rfl 22 _ 1 8 Tryz.underlying62 infoKA rfl (by decide) va xs.length (xs.map (fun y => ptrV y.l)) rfl ?own _ 1 [ptrV o.l] rfl ?rd ?one ?byt ?len ?_)
              case own => exact (HS4.out.quiet ((Keep.refl Nil w4).alloc _)).rowA
              case rd => exact rd_new _ _ _ _ _ _
              case one => simp [Value.oneCell', ptrV]
              case byt => omega
              case len => unfold maxLen; omega
              intro a3 c3 w5 ho hg hs
              have HR5 := hid ho
              have HK5 := hid (show Keep (fun k => va.ownBlock = some k) w4 w5 from Keep.grown ((Keep.refl _ w4).alloc _) hg (fun j hj => .inl hj))
              have HB5 := hid (show ∀ k, (Value.slice a3 (xs.length + 1) c3).ownBlock = some k → va.ownBlock = some k ∨ w4.heap.size ≤ k from fun k e => (hs k e).imp id (fun h => by simp at h; omega))
              clear ho hg hs
              go_wp2_with (at_builtin; refine wpList_app _ rfl _ _ 105 rfl 108 _ 1 8 Tryz.underlying105 infoKB rfl (by decide) vb bl.length (bl.map ptrV) rfl ?own2 _ 1 [ptrV p] rfl ?rd2 ?one2 ?byt2 ?len2 ?_)
              case own2 => exact row_keep HS4.out.rowB (HK5.out.alloc _) (fun k e e' => (HS4.out.ne k e').1 e)
              case rd2 => exact rd_new _ _ _ _ _ _
              case one2 => simp [Value.oneCell', ptrV]
              case byt2 => have := HLB.out; omega
              case len2 => have := HLB.out; unfold maxLen; omega
              intro a4 c4 w6 ho hg hs
              have HR6 := hid ho
              have HK6 := hid (show Keep (fun k => vb.ownBlock = some k) w5 w6 from Keep.grown ((Keep.refl _ w5).alloc _) hg (fun j hj => .inl hj))
              have HB6 := hid (show ∀ k, (Value.slice a4 (bl.length + 1) c4).ownBlock = some k → vb.ownBlock = some k ∨ w5.heap.size ≤ k from fun k e => (hs k e).imp id (fun h => by simp at h; omega))
              clear ho hg hs
              have HF := hid (KM.grown HT4.out HS4.out HI.out (show KOk c.lk 0 o.s by obtain ⟨t0, t1, -⟩ := knErr_0 HER.out; rw [HO.out]; exact KOk.init HLK.out.1 t0 t1 HWF.out.2.2.1 HWF.out.2.2.2) HR5.out HK5.out HB5.out HR6.out HK6.out HB6.out)
              go_wp2
              go_meet
              exact ⟨_, _, rfl, rfl, HF⟩
        have e0 : (x.what % 6 == 0) = false := beq_eq_false_iff_ne.2 d0
        by_cases d4 : x.what % 6 = 4
        · as_aux_lemma =>
            have e4 : (x.what % 6 == 4) = true := beq_iff_eq.2 d4
            clear d4 d0
            obtain ⟨er, her⟩ : ∃ er, er = ulErr c.lk c.locks X.1 x.t x.n := ⟨_, rfl⟩
            have HCA := hid (show ∀ (W' : World) (Y : List Int × List Acc), KMT w1 W' L c b mb rb rm ll X Y xs qs bl → Calls Tryz.prog 16 #[.pointer (some ⟨b, 0, none⟩), .int .i64 x.t, .int .i64 x.n] W' (KUlA w1 W' L c b mb rb rm ll (ulTo c.lk c.locks X x.t x.n) Y xs qs bl er) from fun W' Y h => her ▸ k_unlA h HC.out HI.out.wd (by have := HI.out.log; have := HXS.out.1; omega) x.t x.n)
            have HCB := hid (show ∀ (W' : World) (Y : List Int × List Acc), KMT w1 W' L c b mb rb rm ll Y X xs qs bl → Calls Tryz.prog 52 #[.pointer (some ⟨rb, 0, none⟩), .int .i64 x.t, .int .i64 x.n] W' (KUlA w1 W' L c b mb rb rm ll Y (ulTo c.lk c.locks X x.t x.n) xs qs bl er) from fun W' Y h => her ▸ k_unlB h HC.out HI.out.wd (by have := HI.out.log; have := HXS.out.1; omega) x.t x.n)
            have hne : (er != er) = false := by simp
            clear her
            have HD := hid (HT.out.quiet ((Keep.refl Nil W).drew))
            have HDS := hid (HS.out.quiet ((Keep.refl Nil W).drew))
            have HDX := hid (HX.out.quiet ((Keep.refl Nil W).drew))
            go_upto_region 28 with fail
            go_region_held3 (fun w' => w'.cell? ⟨tb, 0, none⟩ = some (.pointer (some ⟨b, 0, none⟩)) ∧ w'.cell? ⟨tb, 1, none⟩ = some (.pointer (some ⟨rb, 0, none⟩)) ∧ w'.cell? ⟨xb, 1, none⟩ = some (.int .i64 x.t) ∧ w'.cell? ⟨xb, 2, none⟩ = some (.int .i64 x.n) ∧ w'.cell? ⟨xb, 3, none⟩ = some (.int .u64 x.lo) ∧ w'.cell? ⟨xb, 4, none⟩ = some (.int .u64 x.hi)) (first | (exact s9; done) | go_keep)
              (first
                | (go_at_call 16; (with_reducible refine (HCA.out _ _ XB.out).mono ?_); rintro e w5 ⟨rfl, h1, k1⟩; have SF := hid (SB.out.out k1); have YF := hid (YB.out.out k1 HLX.out); have s9 := kconj5 SF.out YF.out; have sz := ksize2 SF.out YF.out; have XF := hid h1; clear h1 k1)
                | (go_at_call 16; (with_reducible refine (HCA.out _ _ HD.out).mono ?_); rintro e w5 ⟨rfl, h1, k1⟩; have SA := hid (HDS.out.out k1); have YA := hid (HDX.out.out k1 HLX.out); have s9 := kconj5 SA.out YA.out; have sz := ksize2 SA.out YA.out; have XA := hid h1; clear h1 k1)
                | (go_at_call 52; (with_reducible refine (HCB.out _ _ XA.out).mono ?_); rintro e w5 ⟨rfl, h1, k1⟩; have SF := hid (SA.out.out k1); have YF := hid (YA.out.out k1 HLX.out); have s9 := kconj5 SF.out YF.out; have sz := ksize2 SF.out YF.out; have XF := hid h1; clear h1 k1)
                | (go_at_call 52; (with_reducible refine (HCB.out _ _ HD.out).mono ?_); rintro e w5 ⟨rfl, h1, k1⟩; have SB := hid (HDS.out.out k1); have YB := hid (HDX.out.out k1 HLX.out); have s9 := kconj5 SB.out YB.out; have sz := ksize2 SB.out YB.out; have XB := hid h1; clear h1 k1))
            all_goals
              have HF := hid (show KM w1 w5 c b mb rb rm ll tb (i + 1) va vb from ⟨L, ulTo c.lk c.locks X x.t x.n, xs, bl, HQS.out ▸ XF.out, SF.out, HI.out.turn (ulTo_ok HI.out.wd x.t x.n) (ulTo_len c.lk c.locks X x.t x.n)⟩)
              go_wp2
              go_meet
              exact ⟨_, _, rfl, rfl, HF⟩
        have e4 : (x.what % 6 == 4) = false := beq_eq_false_iff_ne.2 d4
        by_cases d5 : x.what % 6 = 5
        · as_aux_lemma =>
            have e5 : (x.what % 6 == 5) = true := beq_iff_eq.2 d5
            clear d5 d4 d0
            obtain ⟨r0, hl, zr⟩ := krl HT.out
            have y16 := hl.c16
            have y17 := hl.c17
            have y18 := hl.c18
            have y19 := hl.c19
            have y20 := hl.c20
            have y21 := hl.c21
            have y22 := hl.c22
            have y23 := hl.c23
            have y24 := hl.c24
            have y25 := hl.c25
            have zl := hl.lt
            clear hl
            go_upto_region 32 with fail
            obtain ⟨W2, hW2⟩ : ∃ W2, W2 = W.alloc (.cells #[.int .i64 0, .int .i64 (c.engine : Int), .int .i64 (c.master : Int), .int .i64 (c.locks : Int), .int .i64 (c.descs : Int), .int .i64 (c.pools : Int), .int .i64 (c.links : Int), .int .i64 (c.heads : Int), .int .i64 (c.towers : Int), .int .i64 (c.words : Int)] 51) := ⟨_, rfl⟩
            rw [← hW2]
            obtain ⟨pb, hpb⟩ : ∃ pb, pb = W.heap.size := ⟨_, rfl⟩
            rw [← hpb]
            obtain ⟨L2, hL2⟩ : ∃ L2 : Nat → Prop, L2 = fun k => L k ∨ k = W.heap.size := ⟨_, rfl⟩
            have HT2 := hid (show KMT w1 W2 L2 c b mb rb rm ll X X xs qs bl by rw [hL2, hW2]; exact g_own1 HT.out _)
            have HS2 := hid (show KR W2 L2 tb b rb va vb xs bl by rw [hL2, hW2]; exact (HS.out.quiet ((Keep.refl Nil W).alloc _)).more (fun k e => .inl e))
            have HX2 := hid (show KXAt W2 xb x by rw [hW2]; exact HX.out.quiet ((Keep.refl Nil W).alloc _))
            have HP2 := hid (show KPAt W2 pb c by rw [hW2, hpb]; exact heap_alloc_new W _)
            have HL2X := hid (show L2 xb by rw [hL2]; exact .inl HLX.out)
            have HL2P := hid (show L2 pb by rw [hL2, hpb]; exact .inr rfl)
            clear hW2 hL2 hpb c0 c1 g1 g2 g3 g4 z0 z1 q0 r0 zr y16 y17 y18 y19 y20 y21 y22 y23 y24 y25 zl
            obtain ⟨c0, c1, g1, g2, g3, g4⟩ := kconj5 HS2.out HX2.out
            obtain ⟨z0, z1⟩ := ksize2 HS2.out HX2.out
            obtain ⟨v2, v4⟩ := kconjP HP2.out
            have z2 : pb < W2.heap.size := lt_of_block HP2.out
            obtain ⟨k1, k16, kd, kw, kw2⟩ := HLK.out
            obtain ⟨D, hD⟩ : ∃ D : Nat, (D : Int) = (c.descs : Int) - (c.master : Int) := ⟨c.descs - c.master, by omega⟩
            have wd : IntKind.i64.wrap ((c.descs : Int) - (c.master : Int)) = (D : Int) := by rw [IntKind.wrap_i64]; omega
            obtain ⟨k, hk⟩ : ∃ k : Nat, x.n % (D : Int) = (k : Int) := ⟨(x.n % (D : Int)).toNat, by have := Int.emod_nonneg x.n (show (D : Int) ≠ 0 by omega); omega⟩
            have hkl : k < D := by have := Int.emod_lt_of_pos x.n (show (0 : Int) < (D : Int) by omega); omega
            have HMOD := hid (show ∀ w', Calls Tryz.prog 29 #[.int .i64 x.n, .int .i64 D] w' (fun e w'' => e = .returned (.int .i64 k) ∧ w' = w'') from fun w' => by
              have := mod_ok x.n (D : Int) HWF.out.2.1.1 (by have := HWF.out.2.1.2; omega) (by omega) (by omega) w'
              rw [hk] at this
              exact this)
            obtain ⟨AN, hAN⟩ : ∃ AN : Nat, AN = c.master + k := ⟨_, rfl⟩
            have wa : IntKind.i64.wrap ((c.master : Int) + (k : Int)) = (AN : Int) := by rw [IntKind.wrap_i64]; omega
            have HANL := hid (show AN < X.1.length by rw [HI.out.wd.len]; omega)
            clear hk hkl hD hAN k1 k16 kd kw kw2
            have HD := hid (HT2.out.quiet ((Keep.refl Nil W2).drew))
            have HDS := hid (HS2.out.quiet ((Keep.refl Nil W2).drew))
            have HDX := hid (HX2.out.quiet ((Keep.refl Nil W2).drew))
            have HDP := hid (HP2.out.quiet ((Keep.refl Nil W2).drew))
            go_region_held3 (fun w' => (w'.cell? ⟨tb, 0, none⟩ = some (.pointer (some ⟨b, 0, none⟩)) ∧ w'.cell? ⟨tb, 1, none⟩ = some (.pointer (some ⟨rb, 0, none⟩)) ∧ w'.cell? ⟨xb, 1, none⟩ = some (.int .i64 x.t) ∧ w'.cell? ⟨xb, 2, none⟩ = some (.int .i64 x.n) ∧ w'.cell? ⟨xb, 3, none⟩ = some (.int .u64 x.lo) ∧ w'.cell? ⟨xb, 4, none⟩ = some (.int .u64 x.hi)) ∧ w'.cell? ⟨pb, 2, none⟩ = some (.int .i64 (c.master : Int)) ∧ w'.cell? ⟨pb, 4, none⟩ = some (.int .i64 (c.descs : Int))) (first | (exact s9; done) | go_keep)
              (first
                | (go_at_call 29; (with_reducible refine (HMOD.out _).mono ?_); rintro e w5 ⟨rfl, rfl⟩)
                | (go_at_call 53; (with_reducible refine (k_store HD.out AN x.lo HANL.out (by have := HI.out.log; have := HXS.out.1; omega)).mono ?_); rintro e w5 ⟨rfl, h1, k1⟩; have SF := hid (HDS.out.out k1); have YF := hid (HDX.out.out k1 HL2X.out); have PF := hid (HDP.out.out k1 HL2P.out); have s9 := And.intro (kconj5 SF.out YF.out) (kconjP PF.out); have sz := And.intro (ksize2 SF.out YF.out) (lt_of_block PF.out); have XF := hid h1; clear h1 k1))
            all_goals
              have HF := hid (show KM w1 w5 c b mb rb rm ll tb (i + 1) va vb from ⟨L2, _, xs, bl, HQS.out ▸ XF.out, SF.out, HI.out.turn (HI.out.wd.set AN HWF.out.2.2.1.1 HWF.out.2.2.1.2) (by simp)⟩)
              go_wp2
              go_meet
              exact ⟨_, _, rfl, rfl, HF⟩
        have e5 : (x.what % 6 == 5) = false := beq_eq_false_iff_ne.2 d5
        clear d5 d4 d0
        by_cases hnx : xs.length = 0
        · obtain ⟨aA, cA, rfl⟩ := row_slice HS.out.rowA
          have dz : ((xs.length : Int) == 0) = true := beq_iff_eq.2 (by omega)
          have HF := hid (show KM w1 W c b mb rb rm ll tb (i + 1) (.slice aA xs.length cA) vb from ⟨L, X, xs, bl, HQS.out ▸ HT.out, HS.out, HI.out.mono (by omega)⟩)
          clear hnx
          go_wp2
          go_roundw
          case rel => exact ⟨i + 1, _, _, by omega, by omega, by go_num, rfl, rfl, HF⟩
          case measure => simp [intOf]; omega
        · as_aux_lemma =>
            have hnum : xs.length ≤ 120 := by have := HI.out.num; omega
            obtain ⟨k, hk⟩ : ∃ k : Nat, x.n % (xs.length : Int) = (k : Int) := ⟨(x.n % (xs.length : Int)).toNat, by have := Int.emod_nonneg x.n (show (xs.length : Int) ≠ 0 by omega); omega⟩
            have hkl : k < xs.length := by have := Int.emod_lt_of_pos x.n (show (0 : Int) < (xs.length : Int) by omega); omega
            have HMOD := hid (show ∀ w', Calls Tryz.prog 29 #[.int .i64 x.n, .int .i64 xs.length] w' (fun e w'' => e = .returned (.int .i64 k) ∧ w' = w'') from fun w' => by
              have := mod_ok x.n (xs.length : Int) HWF.out.2.1.1 (by have := HWF.out.2.1.2; omega) (by omega) (by omega) w'
              rw [hk] at this
              exact this)
            obtain ⟨o, ho⟩ : ∃ o, xs[k]? = some o := ⟨_, List.getElem?_eq_getElem hkl⟩
            obtain ⟨p, hp⟩ : ∃ p, bl[k]? = some p := ⟨_, List.getElem?_eq_getElem (by have := HI.out.lb; omega)⟩
            obtain ⟨gA, cA, rfl, ra, za, -⟩ := HS.out.at ho
            obtain ⟨gB, cB, rfl, rp, zb, -⟩ := HS.out.bt hp
            have HO := hid ho
            have HQ := hid (show qs[k]? = some o.s by rw [HQS.out, List.getElem?_map, ho]; rfl)
            have HP := hid hp
            have HJ := hid (HI.out.ok k o ho)
            have HKL := hid hkl
            have dz : ((xs.length : Int) == 0) = false := beq_eq_false_iff_ne.2 (by omega)
            have k0 : (0 : Int) ≤ (k : Int) := by omega
            have k1 : (k : Int) < (xs.length : Int) := by omega
            have k2 : (k : Int) < (bl.length : Int) := by have := HI.out.lb; omega
            obtain ⟨nv, hnv⟩ : ∃ nv, nv = o.s.next := ⟨_, rfl⟩
            have HNA := hid (show ∀ w1, LkAt w1 o.l o.sb o.m b o.s → Calls Tryz.prog 15 #[.pointer (some ⟨o.l, 0, none⟩)] w1 fun e w' => e = .returned (.int .u8 nv) ∧ w1 = w' from fun w1 h => hnv ▸ knext_ok h)
            have HNB := hid (show ∀ w1, RKAt w1 p rb o.s → Calls Tryz.prog 54 #[.pointer (some ⟨p, 0, none⟩)] w1 fun e w' => e = .returned (.int .u8 nv) ∧ w1 = w' from fun w1 h => hnv ▸ r31next h)
            clear hnx hk hkl ho hp hnum hnv
            go_wp2_with fail
            refine (HMOD.out _).mono ?_
            rintro e w' ⟨rfl, rfl⟩
            go_wp2
            go_quiet (first | (go_at_call 15; exact quiet_eq (HNA.out _ (KMT.ob (HT.out.quiet ((Keep.refl Nil _).drewN _)) HO.out))) | (go_at_call 54; exact quiet_eq (HNB.out _ (KMT.rob (HT.out.quiet ((Keep.refl Nil _).drewN _)) HP.out HQ.out))))
            obtain ⟨V, hV⟩ : ∃ V, V = W.drewN nq := ⟨_, rfl⟩
            rw [← hV]
            have hkV : Keep Nil W V := hV ▸ (Keep.refl Nil W).drewN _
            have HTV := hid (HT.out.quiet hkV)
            have HSV := hid (HS.out.quiet hkV)
            clear hV hkV c0 c1 g1 g2 g3 g4 z0 z1 ra rp za zb q0
            obtain ⟨ra, za⟩ := HSV.out.cellA HO.out
            obtain ⟨rp, zb⟩ := HSV.out.cellB HP.out
            obtain ⟨pc, done, X', s', hst⟩ := k_step (n := i) HTV.out HC.out HI.out.wd (by have := HI.out.log; have := HXS.out.1; omega) (by have := HXS.out.1; omega) HO.out HQ.out HP.out HJ.out
            have HST := hid hst
            clear hst
            go_wp2_with fail
            refine HST.out.a.mono ?_
            rintro e w3 ⟨rfl, ht3, hk3⟩
            obtain ⟨o', ho'⟩ : ∃ o' : LkC, o' = ⟨o.l, o.sb, o.m, s'⟩ := ⟨_, rfl⟩
            rw [← ho'] at ht3
            have HT3 := hid ht3
            have HS3 := hid ((HSV.out.out hk3).set HO.out (show o'.l = o.l by rw [ho']))
            have HOS := hid (show o'.l = o.l ∧ o'.s = s' by rw [ho']; exact ⟨rfl, rfl⟩)
            clear ht3 hk3 ho' ra rp za zb
            obtain ⟨rp, zb⟩ := HS3.out.cellB HP.out
            go_wp2_with fail
            refine (HST.out.b w3 _ HT3.out).mono ?_
            rintro e w4 ⟨rfl, ht4, hk4⟩
            have HT4 := hid ht4
            have HS4 := hid (HS3.out.out hk4)
            have HO4 := hid (show (xs.set k o')[k]? = some o' by have := HKL.out; simp [this])
            have HQ4 := hid (show (qs.set k s')[k]? = some s' by have := HKL.out; rw [List.getElem?_set_self (by rw [HQS.out, List.length_map]; omega)])
            clear ht4 hk4 rp zb
            obtain ⟨ra, za⟩ := HS4.out.cellA HO4.out
            rw [HOS.out.1] at ra
            obtain ⟨⟨u, v, er⟩, hres⟩ : ∃ r, r = KS.res s' := ⟨_, rfl⟩
            have HRA := hid (show ∀ w1, LkAt w1 o.l o'.sb o'.m b o'.s → Calls Tryz.prog 14 #[.pointer (some ⟨o.l, 0, none⟩)] w1 fun e w' => e = .returned (.tuple #[.int .i64 u, .int .i64 v, .int .i64 er]) ∧ Keep Nil w1 w' from fun w1 h => kres_ok h u v er (by rw [HOS.out.2, ← hres]))
            have HRB := hid (show ∀ w1, RKAt w1 p rb s' → Calls Tryz.prog 56 #[.pointer (some ⟨p, 0, none⟩)] w1 fun e w' => e = .returned (.tuple #[.int .i64 u, .int .i64 v, .int .i64 er]) ∧ Keep Nil w1 w' from fun w1 h => r31res h u v er hres.symm)
            clear hres
            go_wp2_with fail
            refine (HRA.out w4 (HOS.out.1 ▸ KMT.ob HT4.out HO4.out)).mono ?_
            rintro e w5 ⟨rfl, hk5⟩
            have HT5 := hid (HT4.out.quiet hk5)
            have HS5 := hid (HS4.out.quiet hk5)
            clear hk5 ra za
            obtain ⟨rp, zb⟩ := HS5.out.cellB HP.out
            go_wp2_with fail
            refine (HRB.out w5 (KMT.rob HT5.out HP.out HQ4.out)).mono ?_
            rintro e w6 ⟨rfl, hk6⟩
            have hqm : qs.set k s' = (xs.set k o').map LkC.s := by rw [HQS.out, List.map_set, HOS.out.2]
            have HF := hid (show KM w1 w6 c b mb rb rm ll tb (i + 1) (.slice (some ⟨gA, 0, none⟩) xs.length cA) (.slice (some ⟨gB, 0, none⟩) bl.length cB) from by
              have hks : (xs.set k o').length = xs.length := List.length_set
              have hr := HS5.out.quiet hk6
              exact ⟨L, X', xs.set k o', bl, hqm ▸ HT5.out.quiet hk6, hr, (HI.out.turn HST.out.wd HST.out.log).set (by rw [HOS.out.2]; exact HST.out.ok)⟩)
            have n1 : (nv != nv) = false := by simp
            have n2 : (pc != pc) = false := by simp
            have n3 : (done != done) = false := by simp
            have n4 : (u != u) = false := by simp
            have n5 : (v != v) = false := by simp
            have n6 : (er != er) = false := by simp
            clear hk6 hqm
            go_wp2
            go_meet
            exact ⟨_, _, rfl, rfl, HF⟩
      case rest =>
        as_aux_lemma =>
          obtain ⟨va2, vb2, hva2, hvb2, HSM2⟩ := hcut
          obtain rfl : va2 = _ := hva2.symm
          obtain rfl : vb2 = _ := hvb2.symm
          clear HT HS HX HLX HI HQS q0 c0 c1 g1 g2 g3 g4 z0 z1 hva2 hvb2
          obtain ⟨L2, X2, xs2, bl2, ht2, hr2, hi2⟩ := HSM2.out
          have HT2 := hid ht2
          have HI2 := hid hi2
          obtain ⟨c0, c1, z0⟩ := HSM2.out.box
          obtain ⟨hd, hhd⟩ : ∃ hd, hd = heldP c.locks X2.1 c.lk := ⟨_, rfl⟩
          have hhl : hd.length ≤ 16 := by rw [hhd]; have := heldP_len c.locks X2.1 c.lk; have := HLK.out.2.1; omega
          have HHL := hid hhl
          have HOA := hid (hhd ▸ k_heldA HT2.out HC.out HI2.out.wd)
          have HOB := hid (show ∀ w', Keep Nil wc w' → Calls Tryz.prog 57 #[.pointer (some ⟨rb, 0, none⟩)] w' (R31HeldTo w' hd) from fun w' hk => hhd ▸ k_heldB (HT2.out.quiet hk) HC.out HI2.out.wd)
          clear ht2 hr2 hi2 hhd hhl
          go_wp2_with fail
          refine HOA.out.mono ?_
          rintro e w5 ⟨ga, gc, rfl, hg, hk5, hgz⟩
          have HG := hid hg
          have HK5 := hid hk5
          have HGZ := hid hgz
          have c0 := hk5.cell c0 (fun h => h)
          have c1 := hk5.cell c1 (fun h => h)
          have z0 : tb < w5.heap.size := by have := hk5.size; omega
          clear hg hk5 hgz HOA
          go_wp2_with fail
          refine (HOB.out w5 HK5.out).mono ?_
          rintro e w6 ⟨ra, rc, rfl, hrd, hk6⟩
          have HRB := hid hrd
          have HK6 := hid hk6
          clear hrd hk6 HOB c0 c1 z0
          go_wp2_with fail
          refine (eqS_yes _ _ hd _ (rd_keep (row_rd HG.out) HK6.out (fun _ _ h => h)) HRB.out (by have := HHL.out; omega)).mono ?_
          rintro e w7 ⟨rfl, hk7⟩
          have HK7 := hid (HK5.out.trans (HK6.out.trans hk7 (fun _ _ h => h)) (fun _ _ h => h))
          have HH7 := hid (khd_of HG.out HGZ.out (HK6.out.trans hk7 (fun _ _ h => h)))
          clear hk7
          go_wp2
          go_loopw [30] (fun kv wz => ∃ (k : Nat), k ≤ hd.length ∧ kv = .int .i64 k ∧ KHd wz wc.heap.size hd.length ga ∧ Keep Nil wc wz) (fun kv _ => hd.length - (intOf kv).toNat)
          case atStart => exact ⟨0, Nat.zero_le _, rfl, HH7.out, HK7.out⟩
          case round =>
            obtain ⟨k, hk, rfl, hgw, hkw⟩ := hrel
            have HKW2 := hid hkw
            have HGW := hid hgw
            clear hkw
            by_cases hlk : k < hd.length
            · have dk : decide ((k : Int) < (hd.length : Int)) = true := decide_eq_true (by omega)
              have k0 : (0 : Int) ≤ (k : Int) := by omega
              have k1 : (k : Int) < (hd.length : Int) := by omega
              have wk : IntKind.i64.wrap ((k : Int) + 1) = (k : Int) + 1 := by rw [IntKind.wrap_i64]; have := HHL.out; omega
              rcases hgw with e | ⟨g, cur, rfl, hz, hh, hv⟩
              · omega
              · obtain ⟨v0, hv0⟩ := hv (k * 2) (by omega)
                obtain ⟨v1, hv1⟩ := hv (k * 2 + 1) (by omega)
                have cx0 : wr.cell? ⟨g, k * 2, none⟩ = some (.int .u64 v0) := by rw [cell_of hh]; exact hv0
                have cx1 : wr.cell? ⟨g, k * 2 + 1, none⟩ = some (.int .u64 v1) := by rw [cell_of hh]; exact hv1
                have fx : wr.frozen? ⟨g, k * 2, none⟩ = false := free_of hh _
                have HZ2 := hid hz
                have HV := hid hv
                have HHH := hid hh
                clear hz hh hv hv0 hv1
                go_wp2
                go_roundw
                case rel =>
                  refine ⟨k + 1, by omega, by go_num, .inr ⟨g, _, rfl, HZ2.out, set_same HHH.out _, fun j hj => ?_⟩, ?_⟩
                  · rw [Array.getElem?_setIfInBounds]
                    split
                    · split
                      · exact ⟨_, rfl⟩
                      · rename_i h1 h2
                        obtain ⟨v, hv⟩ := HV.out j hj
                        have := (Array.getElem?_eq_some_iff.1 hv).1
                        omega
                    · exact HV.out j hj
                  · exact HKW2.out.trans ((Keep.refl (fun j => j = g) wr).setCell (p := ⟨g, k * 2, none⟩) (.inl rfl) _) (fun j hj e => by have := HZ2.out; have e' : j = g := e; omega)
                case measure => simp [intOf]; omega
            · obtain rfl : k = hd.length := by omega
              have dk : decide ((hd.length : Int) < (hd.length : Int)) = false := decide_eq_false (by omega)
              clear hlk hgw
              go_wp2
              go_roundw
              case rel => exact ⟨i + 1, _, _, by omega, by omega, by go_num, rfl, rfl, hid (HSM2.out.quiet HKW2.out)⟩
              case measure => simp [intOf]; omega
    · as_aux_lemma =>
        have hcond : l.length ≤ i ∨ 120 ≤ i := by omega
        obtain ⟨L2, X2, xs2, bl2, ht2, hr2, hi2⟩ := HSM.out
        have HT2 := hid ht2
        have HI2 := hid hi2
        obtain ⟨c0, c1, z0⟩ := HSM.out.box
        have HF := hid (g_same (x := X2) (memL_objsB (LkO b) c b mb) (rmemL_objs (RKO rb) c rb rm ll) HT2.out rfl rfl HC.out (by rw [HI2.out.wd.len]; have := words_le c HC.out; omega) (by have := HI2.out.log; omega))
        clear ht2 hr2 hi2
        by_cases hl1 : i < l.length
        · have d1 : decide ((i : Int) < (l.length : Int)) = true := decide_eq_true (by omega)
          have d2 : decide ((i : Int) < 120) = false := decide_eq_false (by omega)
          have i1 : ((i : Int) < (l.length : Int)) = True := eq_true (by omega)
          have i2 : ((i : Int) < 120) = False := eq_false (by omega)
          clear hlt hcond hl1
          go_wp2_with fail
          refine HF.out.mono ?_
          rintro e w4 ⟨rfl, hk4⟩
          go_wp2_with fail
          refine kawake_ok.mono ?_
          rintro e w5 ⟨rfl, hk5⟩
          go_wp2
          go_ret
          exact ⟨rfl, HKW.out.trans (HSM.out.own.trans (hk4.trans hk5 (fun _ _ h => h)) (fun _ _ h => h)) (fun _ _ h => h)⟩
        · have d1 : decide ((i : Int) < (l.length : Int)) = false := decide_eq_false (by omega)
          have i1 : ((i : Int) < (l.length : Int)) = False := eq_false (by omega)
          clear hlt hcond hl1
          go_wp2_with fail
          refine HF.out.mono ?_
          rintro e w4 ⟨rfl, hk4⟩
          go_wp2_with fail
          refine kawake_ok.mono ?_
          rintro e w5 ⟨rfl, hk5⟩
          go_wp2
          go_ret
          exact ⟨rfl, HKW.out.trans (HSM.out.own.trans (hk4.trans hk5 (fun _ _ h => h)) (fun _ _ h => h)) (fun _ _ h => h)⟩
end
end Go.Proofs.YtmafdjhjmnghcaaGreat
