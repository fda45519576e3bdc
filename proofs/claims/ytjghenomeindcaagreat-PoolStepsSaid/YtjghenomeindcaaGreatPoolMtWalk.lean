/- PoolSteps: in any interleaving results, accesses, stacks and generations are those of the reference: the walk. -/
import Derived.Test.YtjghenomeindcaaGreatPoolMR
import Derived.Deep.RegionHeld3
import Derived.Deep.DeepCutAuto
import Derived.Deep.CutBlock
set_option linter.unusedVariables false
set_option linter.unusedSimpArgs false
namespace Go.Proofs.YtjghenomeindcaaGreat
open Go.RowKit Go.Lf
/-- The event under way, in a block of the walk's own. -/
def EvAt (W : World) (xb : Nat) (x : PEvV) : Prop := W.heap[xb]? = some (.cells #[.int .u8 x.d, .int .i64 x.th, .int .i64 x.ht, .int .i64 x.tr, .int .i64 x.tw, .int .i64 x.rn] 84 (0, 0))
theorem EvAt.out {w W W' : World} {L : Nat → Prop} {xb : Nat} {x : PEvV} (h : EvAt W xb x) (hk : Keep (Out w L) W W') (hl : L xb) : EvAt W' xb x := hk.loc h hl
theorem EvAt.quiet {W W' : World} {xb : Nat} {x : PEvV} (h : EvAt W xb x) (hk : Keep Nil W W') : EvAt W' xb x := hk.at h (fun h => h)
theorem EvAt.cs {W : World} {xb : Nat} {x : PEvV} (h : EvAt W xb x) : W.cell? ⟨xb, 1, none⟩ = some (.int .i64 x.th) ∧ W.cell? ⟨xb, 2, none⟩ = some (.int .i64 x.ht) ∧ W.cell? ⟨xb, 3, none⟩ = some (.int .i64 x.tr) ∧ W.cell? ⟨xb, 4, none⟩ = some (.int .i64 x.tw) ∧ W.cell? ⟨xb, 5, none⟩ = some (.int .i64 x.rn) ∧ xb < W.heap.size :=
  ⟨by rw [cell_of h]; rfl, by rw [cell_of h]; rfl, by rw [cell_of h]; rfl, by rw [cell_of h]; rfl, by rw [cell_of h]; rfl, lt_of_block h⟩
section
set_option maxRecDepth 100000 in
set_option maxHeartbeats 16000000 in
theorem walk_psteps (w : World) (zs : List Int) (hz : zs.length = 6) (hwf : ∀ z ∈ zs, (Lit.int .i64 z).wf = true) (v : Value) (es : List PEvV) (rd : Rd w 6 v es.length (pevCells es)) (bd : ∀ y ∈ es, PEvV.wf y) (ml : es.length ≤ maxLen) :
    Calls Tryz.prog 6 #[.agg (zs.map (Value.int .i64)).toArray, v] w fun e w' => e = .returned (.bool true) ∧ Keep Nil w w' := by
  have hml := ml
  unfold maxLen at hml
  obtain ⟨a, cp, rfl, -⟩ : ∃ a c, v = .slice a es.length c ∧ True := by obtain ⟨a, c, h, -⟩ := rd; exact ⟨a, c, h, trivial⟩
  obtain ⟨y1, y2, y3, y4, y5, y6, rfl⟩ : ∃ y1 y2 y3 y4 y5 y6, zs = [y1, y2, y3, y4, y5, y6] := by
    match zs, hz with
    | [a, b, c, d, e, f], _ => exact ⟨a, b, c, d, e, f, rfl⟩
  have HF := hid (fun W => show Calls Tryz.prog 25 #[.agg #[.int .i64 y1, .int .i64 y2, .int .i64 y3, .int .i64 y4, .int .i64 y5, .int .i64 y6]] W _ from few_ok W [y1, y2, y3, y4, y5, y6] rfl hwf)
  have HRD := hid rd
  have HBD := hid bd
  have HBX := hid (heap_alloc_new w (.cells #[.int .i64 y1, .int .i64 y2, .int .i64 y3, .int .i64 y4, .int .i64 y5, .int .i64 y6] 40 (0, 0)))
  clear hz hwf rd bd ml
  simp only [List.map_cons, List.map_nil]
  go_enter Tryz.func6, Tryz.ntmps6
  go_wp2_with fail
  refine (HF.out _).mono ?_
  rintro e w1 ⟨⟨b, rfl, hb⟩, hk1⟩
  have HK1 := hid (((Keep.refl Nil w).alloc _).trans hk1 (fun _ _ h => h))
  have HBX1 := hid (hk1.at HBX.out (fun h => h))
  obtain ⟨x1, x2, x3, x4, x5, x6⟩ := box6 HBX1.out
  have HB := hid hb
  clear hk1 hb HF HBX
  cases b with
  | false =>
    go_wp2
    go_ret
    exact ⟨rfl, HK1.out⟩
  | true =>
    by_cases hlen : es.length > 300
    · have d0 : decide ((es.length : Int) > 300) = true := decide_eq_true (by omega)
      go_wp2
      go_ret
      exact ⟨rfl, HK1.out⟩
    · have d0 : decide ((es.length : Int) > 300) = false := decide_eq_false (by omega)
      obtain ⟨t1, t2, t3, t4, t5, t6, rfl, rfl, rfl, rfl, rfl, rfl, hs⟩ := few_six (HB.out rfl)
      have hok := pcfg_ok (ts := [t1, t2, t3, t4, t5, t6]) rfl hs
      have hnT : (pcfg [t1, t2, t3, t4, t5, t6]).nT ≤ 40 := by rw [pcfg_nT]; exact hs
      have HCFG := hid (fun W => config_ok W t1 t2 t3 t4 t5 t6)
      have HNEW := hid (fun W => pnew_lay W t1 t2 t3 t4 t5 t6 hs)
      have HREF := hid (fun W => show Calls Tryz.prog 28 #[cfgV (pcfg [t1, t2, t3, t4, t5, t6]) t1 t2 t3 t4 t5 t6 none 0] W (RLNewTo W (pcfg [t1, t2, t3, t4, t5, t6])) from rlnew_ok (pcfg [t1, t2, t3, t4, t5, t6]) hok t1 t2 t3 t4 t5 t6 rfl none 0 (rd_none W))
      obtain ⟨c, hc⟩ : ∃ c, c = pcfg [t1, t2, t3, t4, t5, t6] := ⟨_, rfl⟩
      rw [← hc] at hok hnT HCFG HNEW HREF
      have HOK := hid hok
      have HNT := hid hnT
      have HZW := hid (show 0 < c.words ∧ c.words ≤ 65536 from ⟨by have := le_words c; omega, words_bd HOK.out⟩)
      have hlen : es.length ≤ 300 := by omega
      clear HB hs hok hnT hc
      go_wp2_with fail
      refine (HCFG.out _).mono ?_
      rintro e w2 ⟨rfl, hk2⟩
      have HK2 := hid (HK1.out.trans hk2 (fun _ _ h => h))
      have HBX2 := hid (hk2.at HBX1.out (fun h => h))
      clear hk2 HBX1 x1 x2 x3 x4 x5 x6
      go_wp2_with fail
      refine (HNEW.out _).mono ?_
      rintro e w3 ⟨L, G, rfl, hl, hk, hG⟩
      have HL := hid hl
      have HG := hid hG
      have HK3 := hid (HK2.out.trans hk (fun _ _ h => h))
      have Z3 := hid hk.size
      have HBX3 := hid (hk.at HBX2.out (fun h => h))
      obtain ⟨x1, x2, x3, x4, x5, x6⟩ := box6 HBX3.out
      clear hl hk hG HNEW HBX2
      go_wp2_with fail
      refine (HCFG.out _).mono ?_
      rintro e w4 ⟨rfl, hk4⟩
      have HK4 := hid (HK3.out.trans hk4 (fun _ _ h => h))
      have HL4 := hid (HL.out.keep hk4 (fun _ _ h => h))
      have Z4 := hid hk4.size
      clear hk4 HBX3 x1 x2 x3 x4 x5 x6 HCFG HL
      go_wp2_with fail
      refine (HREF.out _).mono ?_
      rintro e w5 ⟨ll, GR, rfl, hrl, hk, hGR⟩
      have HRL := hid hrl
      have HGR := hid hGR
      have HK5 := hid (HK4.out.trans hk (fun _ _ h => h))
      have HL5 := hid (HL4.out.keep hk (fun _ _ h => h))
      have Z5 := hid hk.size
      clear hrl hk hGR HREF HL4
      go_wp2_with fail
      refine (initial_ok HL5.out.at_ HOK.out (by have := HZW.out; omega)).mono ?_
      rintro e w6 ⟨rfl, hrow, hk6⟩
      have HR6 := hid (show Rd w6 1 (.slice (some ⟨w5.heap.size, 0, none⟩) c.words c.words) (ints c.init).length (u64s (ints c.init)) by
        rw [pinit_len]
        exact rd_of_heap hrow (by rw [show (u64s (ints c.init)).length = (ints c.init).length by simp [u64s], pinit_len, Nat.mul_one]))
      have HL6 := hid (HL5.out.keep hk6 (fun _ _ h => h))
      have HRL6 := hid (HRL.out.quiet hk6)
      have HK6 := hid (HK5.out.trans hk6 (fun _ _ h => h))
      have Z6 := hid hk6.size
      clear hrow hk6 HL5 HRL
      go_wp2_with fail
      refine (new_ok _ (ints c.init) _ HR6.out (by rw [pinit_len]; exact HZW.out.1) (by rw [pinit_len]; exact HZW.out.2)).mono ?_
      rintro e w7 ⟨mb, F, rfl, hm, hk7, hf⟩
      have HM := hid hm
      have HF := hid (show ∀ k, F k → w6.heap.size ≤ k ∧ k < w7.heap.size from fun k h => ⟨(hf k h).resolve_left (fun h => h), hm.lt k h⟩)
      have HL7 := hid (HL6.out.keep hk7 (fun _ _ h => h))
      have HRL7 := hid (HRL6.out.quiet hk7)
      have HK7 := hid (HK6.out.trans hk7 (fun _ _ h => h))
      have Z7 := hid hk7.size
      clear hm hk7 hf HL6 HRL6 HR6
      go_wp2_with fail
      refine (rinit_ok HRL7.out HOK.out).mono ?_
      rintro e w8 ⟨rfl, hrow, hk8⟩
      have HR8 := hid (show Rd w8 1 (.slice (some ⟨w7.heap.size, 0, none⟩) c.words c.words) (ints c.init).length (u64s (ints c.init)) by
        rw [pinit_len]
        exact rd_of_heap hrow (by rw [show (u64s (ints c.init)).length = (ints c.init).length by simp [u64s], pinit_len, Nat.mul_one]))
      have HM8 := hid (HM.out.keep hk8 (fun _ _ h => h))
      have HL8 := hid (HL7.out.keep hk8 (fun _ _ h => h))
      have HRL8 := hid (HRL7.out.quiet hk8)
      have HK8 := hid (HK7.out.trans hk8 (fun _ _ h => h))
      have Z8 := hid hk8.size
      clear hrow hk8 HL7 HRL7 HM
      go_wp2_with fail
      refine (rnew_ok _ (ints c.init) _ HR8.out (by rw [pinit_len]; exact HZW.out.1) (by rw [pinit_len]; exact HZW.out.2)).mono ?_
      rintro e w9 ⟨nb, FR, rfl, hm, hk9, hf⟩
      have HN := hid hm
      have HFR := hid (show ∀ k, FR k → w8.heap.size ≤ k ∧ k < w9.heap.size from fun k h => ⟨(hf k h).resolve_left (fun h => h), hm.lt k h⟩)
      have HM9 := hid (HM8.out.keep hk9 (fun _ _ h => h))
      have HL9 := hid (HL8.out.keep hk9 (fun _ _ h => h))
      have HRL9 := hid (HRL8.out.quiet hk9)
      have HK9 := hid (HK8.out.trans hk9 (fun _ _ h => h))
      have Z9 := hid hk9.size
      clear hm hk9 hf HL8 HRL8 HM8 HR8
      go_wp2_with fail
      refine (poolnew_ok HL9.out.at_ HM9.out (pinit_len c) HOK.out HZW.out.2).mono ?_
      rintro e w10 ⟨pb, ob, gb, rfl, hp0, hk10, b1, b2, b3, b4, b5, b6⟩
      have ZZ := hid (show w.heap.size ≤ w2.heap.size ∧ w2.heap.size ≤ w3.heap.size ∧ w3.heap.size ≤ w4.heap.size ∧ w4.heap.size ≤ w5.heap.size ∧ w5.heap.size ≤ w6.heap.size ∧ w6.heap.size ≤ w7.heap.size ∧ w7.heap.size ≤ w8.heap.size ∧ w8.heap.size ≤ w9.heap.size from ⟨HK2.out.size, Z3.out, Z4.out, Z5.out, Z6.out, Z7.out, Z8.out, Z9.out⟩)
      clear Z3 Z4 Z5 Z6 Z7 Z8 Z9
      have HPA := hid (show PA w10 (fun k => k = pb ∨ k = ob ∨ k = gb ∨ F k ∨ G k) c pb mb L ob gb F G (PRun.init c).s from pa_new HL9.out HM9.out (fun k hk => ⟨fun hF => by have h1 := HF.out k hF; have h2 := HG.out k hk; have h3 := ZZ.out; omega, by have h2 := HG.out k hk; have h3 := ZZ.out; omega⟩) hp0 hk10 b1 b2 b3)
      have HB := hid (show (w9.heap.size ≤ pb ∧ w9.heap.size ≤ ob ∧ w9.heap.size ≤ gb) ∧ pb < w10.heap.size ∧ ob < w10.heap.size ∧ gb < w10.heap.size from ⟨⟨b1, b2, b3⟩, b4, b5, b6⟩)
      have HRL10 := hid (HRL9.out.quiet hk10)
      have HN10 := hid (HN.out.keep hk10 (fun _ _ h => h))
      have HK10 := hid (HK9.out.trans hk10 (fun _ _ h => h))
      have Z10 := hid hk10.size
      clear hp0 hk10 b1 b2 b3 b4 b5 b6 HL9 HM9 HRL9 HN
      go_wp2_with fail
      refine (rpool14_ok HRL10.out.cells HN10.out (pinit_len c) HOK.out).mono ?_
      rintro e w11 ⟨qb, tb, vb, gr, rfl, hp0, hne, hk11, hq⟩
      have HRP := hid (show RPA w11 (fun k => k = qb ∨ k = tb ∨ k = vb ∨ k = gr ∨ FR k ∨ GR k) c qb nb ll tb vb gr FR GR (PRun.init c).s from rpa_new hne (HRL10.out.on (fun _ h => h)) HN10.out (fun k hk => ⟨fun hF => by have h1 := HFR.out k hF; have h2 := HGR.out k hk; have h3 := ZZ.out; omega, by have h2 := HGR.out k hk; have h3 := ZZ.out; have h4 := Z10.out; omega⟩) hp0 hk11 (fun k h => (hq k h).1))
      have HT0 := hid (show PMT w w11 Nil c pb mb L qb nb ll (PRun.init c).s (PRun.init c).s [] [] [] from by
        refine PMT.init (A := fun k => k = pb ∨ k = ob ∨ k = gb ∨ F k ∨ G k) (B := fun k => k = qb ∨ k = tb ∨ k = vb ∨ k = gr ∨ FR k ∨ GR k) (HK10.out.trans hk11 (fun _ _ h => h)) ((PoolL c pb mb L).keep ⟨ob, gb, F, G, HPA.out⟩ hk11 (fun _ _ h => h)) ⟨tb, vb, gr, FR, GR, HRP.out⟩ (fun k hA => ?_) (fun k hB => ?_)
        · have h3 := ZZ.out
          have h4 := HB.out
          have hk : k < w10.heap.size ∧ w.heap.size ≤ k ∧ ((w9.heap.size ≤ k) ∨ (w6.heap.size ≤ k ∧ k < w7.heap.size) ∨ (w2.heap.size ≤ k ∧ k < w3.heap.size)) := by
            have h5 := Z10.out
            rcases hA with h | h | h | h | h
            · omega
            · omega
            · omega
            · have := HF.out k h; omega
            · have := HG.out k h; omega
          refine ⟨fun hB => ?_, hk.2.1⟩
          have h6 : w10.heap.size ≤ k ∨ (w8.heap.size ≤ k ∧ k < w9.heap.size) ∨ (w4.heap.size ≤ k ∧ k < w5.heap.size) := by
            rcases hB with h | h | h | h | h | h
            · exact .inl (hq k (.inl h)).1
            · exact .inl (hq k (.inr (.inl h))).1
            · exact .inl (hq k (.inr (.inr (.inl h)))).1
            · exact .inl (hq k (.inr (.inr (.inr h)))).1
            · exact .inr (.inl (HFR.out k h))
            · exact .inr (.inr (HGR.out k h))
          omega
        · have h3 := ZZ.out
          have h5 := Z10.out
          rcases hB with h | h | h | h | h | h
          · have := (hq k (.inl h)).1; omega
          · have := (hq k (.inr (.inl h))).1; omega
          · have := (hq k (.inr (.inr (.inl h)))).1; omega
          · have := (hq k (.inr (.inr (.inr h)))).1; omega
          · have := HFR.out k h; omega
          · have := HGR.out k h; omega)
      have HS0 := hid (PMM.init HT0.out ⟨_, _, QInv.init HOK.out⟩ rfl)
      clear hp0 hne hk11 hq HRP HT0 HPA HB HRL10 HN10 HK10 Z10 ZZ HF HG HFR HGR HK9 HK8 HK7 HK6 HK5 HK4 HK3 HK2 HK1 HZW
      go_wp2
      go_loopw [15, 16] (fun ov iv wz => ∃ (i : Nat) (vo : Value), i ≤ es.length ∧ iv = .int .i64 i ∧ ov = vo ∧ Hid (PMM w wz c pb mb L qb nb ll i vo)) (fun _ i _ => es.length - (intOf i).toNat)
      case atStart => exact ⟨0, _, Nat.zero_le _, rfl, rfl, HS0⟩
      case round =>
        obtain ⟨i, vo, hi, rfl, hvo, HSM⟩ := hrel
        obtain rfl : vo = _ := hvo.symm
        clear HS0
        by_cases hlt : i < es.length
        · have i1 : ((i : Int) < (es.length : Int)) = True := eq_true (by omega)
          have d1 : decide ((i : Int) < (es.length : Int)) = true := decide_eq_true (by omega)
          have wi : IntKind.i64.wrap ((i : Int) + 1) = (i : Int) + 1 := by rw [IntKind.wrap_i64]; omega
          obtain ⟨x, hx⟩ : ∃ x, es[i]? = some x := ⟨_, List.getElem?_eq_getElem hlt⟩
          obtain ⟨w1', w2', w3', w4', w5', w6'⟩ := HBD.out x (List.mem_of_getElem? hx)
          obtain ⟨ab, ao, ac, hve, hcl⟩ := Rd.cell HRD.out (by omega)
          simp only [Value.slice.injEq] at hve
          obtain ⟨rfl, -, rfl⟩ := hve
          obtain ⟨x0, x1⟩ := u8_wf w1'
          have hkk : Keep Nil w wr := HSM.out.own
          have q : ∀ j u, x.cells[j]? = some u → wr.cell? ⟨ab, ao + i * 6 + j, none⟩ = some u := fun j u hu => by rw [Nat.add_assoc]; exact hkk.cell (hcl _ _ (pevCells_at hx hu)) (fun h => h)
          have q0 : wr.cell? ⟨ab, ao + i * 6, none⟩ = some (.int .u8 x.d) := q 0 _ rfl
          have q1 : wr.cell? ⟨ab, ao + i * 6 + 1, none⟩ = some (.int .i64 x.th) := q 1 _ rfl
          have q2 : wr.cell? ⟨ab, ao + i * 6 + 2, none⟩ = some (.int .i64 x.ht) := q 2 _ rfl
          have q3 : wr.cell? ⟨ab, ao + i * 6 + 3, none⟩ = some (.int .i64 x.tr) := q 3 _ rfl
          have q4 : wr.cell? ⟨ab, ao + i * 6 + 4, none⟩ = some (.int .i64 x.tw) := q 4 _ rfl
          have q5 : wr.cell? ⟨ab, ao + i * 6 + 5, none⟩ = some (.int .i64 x.rn) := q 5 _ rfl
          have HWF := hid (i64_wf w6')
          clear q hcl hkk w1' w2' w3' w4' w5' w6' hx
          have i0 : (0 : Int) ≤ (i : Int) := by omega
          go_upto_region 20 with fail
          obtain ⟨W, hW⟩ : ∃ W, W = wr.alloc (.cells #[.int .u8 x.d, .int .i64 x.th, .int .i64 x.ht, .int .i64 x.tr, .int .i64 x.tw, .int .i64 x.rn] 84) := ⟨_, rfl⟩
          rw [← hW]
          obtain ⟨L0, s, xs, bl, ht0, hr0, hi0⟩ := HSM.out
          obtain ⟨qs, hqs⟩ : ∃ qs, qs = xs.map POb.o := ⟨_, rfl⟩
          rw [← hqs] at ht0
          obtain ⟨xb, hxb⟩ : ∃ xb, xb = wr.heap.size := ⟨_, rfl⟩
          obtain ⟨Lo, hLo⟩ : ∃ Lo : Nat → Prop, Lo = fun k => L0 k ∨ k = wr.heap.size := ⟨_, rfl⟩
          have HT := hid (show PMT w W Lo c pb mb L qb nb ll s s xs qs bl by rw [hLo, hW]; exact p_own1 ht0 _)
          have HR := hid (show OpR W Lo vo xs bl by rw [hLo, hW]; exact (hr0.quiet ((Keep.refl Nil wr).alloc _)).more (fun k e => .inl e))
          have HX := hid (show EvAt W xb x by rw [hxb, hW]; exact heap_alloc_new wr _)
          have HLX := hid (show Lo xb by rw [hLo]; exact .inr hxb)
          have HI := hid hi0
          have HQS := hid hqs
          have q0 : W.cell? ⟨xb, 0, none⟩ = some (.int .u8 x.d) := by rw [cell_of HX.out]; rfl
          rw [← hxb]
          clear hW hLo hxb ht0 hr0 hi0 hqs q1 q2 q3 q4 q5 HSM
          obtain ⟨g1, g2, g3, g4, g5, z1⟩ := HX.out.cs
          have HIL := hid hlt
          go_upto_block 2 with fail
          go_cut [15] (fun v15 wx => ∃ (vo2 : Value), v15 = vo2 ∧ Hid (PMM w wx c pb mb L qb nb ll (i + 1) vo2))
          case first =>
            by_cases d0 : x.d % 6 = 0
            · have e0 : (x.d % 6 == 0) = true := beq_iff_eq.2 d0
              clear d0
              obtain ⟨er, her⟩ : ∃ er, er = ptErr x.th x.ht x.tr := ⟨_, rfl⟩
              by_cases hne : er ≠ 0
              · as_aux_lemma =>
                  have HA0 := hid (fun wr => p_takeA0 pb wr her hne)
                  have HB0 := hid (fun wr => p_takeB0 qb wr her hne)
                  have ne1 : (er != er) = false := by simp
                  clear hne her
                  go_wp2_with fail
                  refine (HA0.out W).mono ?_
                  rintro e w3 ⟨rfl, hk3⟩
                  have HT3 := hid (HT.out.quiet hk3)
                  have HR3 := hid (HR.out.quiet hk3)
                  have HX3 := hid (HX.out.quiet hk3)
                  clear hk3 g1 g2 g3 g4 g5 z1 q0
                  obtain ⟨g1, g2, g3, g4, g5, z1⟩ := HX3.out.cs
                  go_wp2_with fail
                  refine (HB0.out w3).mono ?_
                  rintro e w4 ⟨rfl, hk4⟩
                  have HF := hid (show PMM w w4 c pb mb L qb nb ll (i + 1) vo from ⟨Lo, s, xs, bl, by rw [← HQS.out]; exact HT3.out.quiet hk4, HR3.out.quiet hk4, HI.out.mono (by omega)⟩)
                  clear hk4
                  go_wp2
                  go_meet
                  exact ⟨_, rfl, HF⟩
              · as_aux_lemma =>
                  have her0 : ptErr x.th x.ht x.tr = 0 := by rw [← her]; exact Classical.not_not.1 hne
                  have HER := hid her0
                  clear hne her her0
                  go_wp2_with fail
                  refine (p_takeA HT.out HOK.out HER.out).mono ?_
                  rintro e w3 ⟨o, ho1, he, ht3, hk3⟩
                  unfold ptrV at he
                  subst he
                  have HT3 := hid ht3
                  have HR3 := hid (HR.out.out hk3)
                  have HX3 := hid (HX.out.out hk3 HLX.out)
                  have HO := hid ho1
                  clear ht3 hk3 ho1 g1 g2 g3 g4 g5 z1 q0
                  obtain ⟨g1, g2, g3, g4, g5, z1⟩ := HX3.out.cs
                  go_wp2_with fail
                  refine (p_takeB HT3.out HER.out).mono ?_
                  rintro e w4 ⟨p, he, ht4, hk4⟩
                  unfold ptrV at he
                  subst he
                  rw [HQS.out, ← HO.out] at ht4
                  have HT4 := hid ht4
                  have HR4 := hid (HR3.out.out hk4)
                  have hnum := HI.out.num
                  clear ht4 hk4 g1 g2 g3 g4 g5 z1
                  have HCE := hid (show oprC o p = [ptrV o.tb, .pointer none, ptrV p] by unfold oprC; rw [HO.out]; rfl)
                  go_wp2_with (at_builtin; refine wpList_app _ rfl _ _ 82 rfl 93 _ 3 24 Tryz.underlying82 infoOp14 rfl (by decide) vo xs.length (oprs xs bl) rfl ?own _ 1 [ptrV o.tb, .pointer none, ptrV p] rfl ?rd ?one ?byt ?len ?_)
                  case own => exact (HR4.out.quiet ((Keep.refl Nil w4).alloc _)).row
                  case rd => exact rd_new _ _ _ _ _ _
                  case one => simp [Value.oneCell', ptrV]
                  case byt => omega
                  case len => unfold maxLen; omega
                  intro a3 c3 w5 ho hg hs
                  have HR5 := hid (HCE.out ▸ ho)
                  have HK5 := hid (show Keep (fun k => vo.ownBlock = some k) w4 w5 from Keep.grown ((Keep.refl _ w4).alloc _) hg (fun j hj => .inl hj))
                  have HB5 := hid (show ∀ k, (Value.slice a3 (xs.length + 1) c3).ownBlock = some k → vo.ownBlock = some k ∨ w4.heap.size ≤ k from fun k e => (hs k e).imp id (fun h => by simp at h; omega))
                  clear ho hg hs
                  have HF := hid (PMM.grown HT4.out HR4.out HI.out (by
                    obtain ⟨St, sw, hq⟩ := HI.out.inv
                    obtain ⟨q0, q1, q2, q3, -⟩ := ptErr_0 HER.out
                    rw [HO.out]
                    exact ⟨St, sw, hq.begT q0 q1 (by omega) (by omega)⟩) rfl HR5.out HK5.out HB5.out)
                  go_wp2
                  go_meet
                  exact ⟨_, rfl, HF⟩
            have e0 : (x.d % 6 == 0) = false := beq_eq_false_iff_ne.2 d0
            by_cases d1 : x.d % 6 = 1
            · have e1 : (x.d % 6 == 1) = true := beq_iff_eq.2 d1
              clear d0 d1
              obtain ⟨er, her⟩ : ∃ er, er = pgErr c.nT s.out x.th x.tw := ⟨_, rfl⟩
              by_cases hne : er ≠ 0
              · as_aux_lemma =>
                  have HA0 := hid (p_giveA0 HT.out HOK.out her hne)
                  have HB0 := hid (fun (w3 : World) (h : PMT w w3 Lo c pb mb L qb nb ll s s xs qs bl) => p_giveB0 h her hne)
                  have ne1 : (er != er) = false := by simp
                  clear hne her
                  go_wp2_with fail
                  refine HA0.out.mono ?_
                  rintro e w3 ⟨rfl, hk3⟩
                  have HT3 := hid (HT.out.quiet hk3)
                  have HR3 := hid (HR.out.quiet hk3)
                  have HX3 := hid (HX.out.quiet hk3)
                  clear hk3 g1 g2 g3 g4 g5 z1 q0
                  obtain ⟨g1, g2, g3, g4, g5, z1⟩ := HX3.out.cs
                  go_wp2_with fail
                  refine (HB0.out w3 HT3.out).mono ?_
                  rintro e w4 ⟨rfl, hk4⟩
                  have HF := hid (show PMM w w4 c pb mb L qb nb ll (i + 1) vo from ⟨Lo, s, xs, bl, by rw [← HQS.out]; exact HT3.out.quiet hk4, HR3.out.quiet hk4, HI.out.mono (by omega)⟩)
                  clear hk4
                  go_wp2
                  go_meet
                  exact ⟨_, rfl, HF⟩
              · as_aux_lemma =>
                  have her0 : pgErr c.nT s.out x.th x.tw = 0 := by rw [← her]; exact Classical.not_not.1 hne
                  have HER := hid her0
                  obtain ⟨kh, hkh⟩ : ∃ kh, c.hs[x.tw.toNat - 1]? = some kh := ⟨_, List.getElem?_eq_getElem (by obtain ⟨-, -, q1, q2, -⟩ := pgErr_0 her0; have : c.nT = c.hs.length := rfl; omega)⟩
                  have HKH := hid hkh
                  clear hne her her0 hkh
                  go_wp2_with fail
                  refine (p_giveA HT.out HOK.out HER.out HKH.out).mono ?_
                  rintro e w3 ⟨o, ho1, he, ht3, hk3⟩
                  unfold ptrV at he
                  subst he
                  have HT3 := hid ht3
                  have HR3 := hid (HR.out.out hk3)
                  have HX3 := hid (HX.out.out hk3 HLX.out)
                  have HO := hid ho1
                  clear ht3 hk3 ho1 g1 g2 g3 g4 g5 z1 q0
                  obtain ⟨g1, g2, g3, g4, g5, z1⟩ := HX3.out.cs
                  go_wp2_with fail
                  refine (p_giveB HT3.out HOK.out HER.out HKH.out).mono ?_
                  rintro e w4 ⟨p, he, ht4, hk4⟩
                  unfold ptrV at he
                  subst he
                  rw [HQS.out, ← HO.out] at ht4
                  have HT4 := hid ht4
                  have HR4 := hid (HR3.out.out hk4)
                  have hnum := HI.out.num
                  clear ht4 hk4 g1 g2 g3 g4 g5 z1
                  have HCE := hid (show oprC o p = [.pointer none, ptrV o.tb, ptrV p] by unfold oprC; rw [HO.out]; rfl)
                  go_wp2_with (at_builtin; refine wpList_app _ rfl _ _ 82 rfl 93 _ 3 24 Tryz.underlying82 infoOp14 rfl (by decide) vo xs.length (oprs xs bl) rfl ?own _ 1 [.pointer none, ptrV o.tb, ptrV p] rfl ?rd ?one ?byt ?len ?_)
                  case own => exact (HR4.out.quiet ((Keep.refl Nil w4).alloc _)).row
                  case rd => exact rd_new _ _ _ _ _ _
                  case one => simp [Value.oneCell', ptrV]
                  case byt => omega
                  case len => unfold maxLen; omega
                  intro a3 c3 w5 ho hg hs
                  have HR5 := hid (HCE.out ▸ ho)
                  have HK5 := hid (show Keep (fun k => vo.ownBlock = some k) w4 w5 from Keep.grown ((Keep.refl _ w4).alloc _) hg (fun j hj => .inl hj))
                  have HB5 := hid (show ∀ k, (Value.slice a3 (xs.length + 1) c3).ownBlock = some k → vo.ownBlock = some k ∨ w4.heap.size ≤ k from fun k e => (hs k e).imp id (fun h => by simp at h; omega))
                  clear ho hg hs
                  have HF := hid (PMM.grown HT4.out HR4.out HI.out (by
                    obtain ⟨St, sw, hq⟩ := HI.out.inv
                    obtain ⟨q0, q1, q2, q3, q4⟩ := pgErr_0 HER.out
                    obtain ⟨h1, h6⟩ := HOK.out.hs kh (List.mem_of_getElem? HKH.out)
                    rw [HO.out]
                    exact ⟨St, sw, hq.begG q0 q1 q4 HKH.out h1 h6⟩) rfl HR5.out HK5.out HB5.out)
                  go_wp2
                  go_meet
                  exact ⟨_, rfl, HF⟩
            have e1 : (x.d % 6 == 1) = false := beq_eq_false_iff_ne.2 d1
            clear d0 d1
            obtain ⟨va, vc, rfl⟩ := row_slice HR.out.row
            by_cases hnx : xs.length = 0
            · as_aux_lemma =>
                have dz : decide ((xs.length : Int) > 0) = false := decide_eq_false (by omega)
                have dz2 : decide (0 < (xs.length : Int)) = false := decide_eq_false (by omega)
                have dz3 : decide (0 < xs.length) = false := decide_eq_false (by omega)
                have HF := hid (show PMM w W c pb mb L qb nb ll (i + 1) (.slice va xs.length vc) from ⟨Lo, s, xs, bl, HQS.out ▸ HT.out, HR.out, HI.out.mono (by omega)⟩)
                clear hnx
                go_wp2
                go_meet
                exact ⟨_, rfl, HF⟩
            · as_aux_lemma =>
                have hnum : xs.length ≤ 300 := by have := HI.out.num; omega
                have dz : decide ((xs.length : Int) > 0) = true := decide_eq_true (by omega)
                have dz2 : decide (0 < (xs.length : Int)) = true := decide_eq_true (by omega)
                have dz3 : decide (0 < xs.length) = true := decide_eq_true (by omega)
                obtain ⟨k, hk⟩ : ∃ k : Nat, x.rn % (xs.length : Int) = (k : Int) := ⟨(x.rn % (xs.length : Int)).toNat, by have := Int.emod_nonneg x.rn (show (xs.length : Int) ≠ 0 by omega); omega⟩
                have hkl : k < xs.length := by have := Int.emod_lt_of_pos x.rn (show (0 : Int) < (xs.length : Int) by omega); omega
                have HIX := hid (show ∀ w', Calls Tryz.prog 39 #[.int .i64 x.rn, .int .i64 xs.length] w' (fun e w'' => e = .returned (.int .i64 k) ∧ w' = w'') from fun w' => by
                  have := index14_any x.rn (xs.length : Int) HWF.out.1 HWF.out.2 (by omega) (by omega) w'
                  rw [hk] at this
                  exact this)
                obtain ⟨o, ho⟩ : ∃ o, xs[k]? = some o := ⟨_, List.getElem?_eq_getElem hkl⟩
                obtain ⟨p, hp⟩ : ∃ p, bl[k]? = some p := ⟨_, List.getElem?_eq_getElem (by have := HI.out.lb; omega)⟩
                obtain ⟨gA, cA, hva, hcell, za, -⟩ := HR.out.at ho hp
                simp only [Value.slice.injEq] at hva
                obtain ⟨rfl, -, rfl⟩ := hva
                have HO := hid ho
                have HP := hid hp
                have HQ := hid (show qs[k]? = some o.o by rw [HQS.out, List.getElem?_map, ho]; rfl)
                have k0 : (0 : Int) ≤ (k : Int) := by omega
                have k1 : (k : Int) < (xs.length : Int) := by omega
                have HLOG := hid (show s.log.length < 1000000 by have := HI.out.log; omega)
                have HQI := hid (show ∃ St sw, QInv c s qs St sw by rw [HQS.out]; exact HI.out.inv)
                clear hnx hk hkl ho hp hnum
                go_wp2_with fail
                refine (HIX.out _).mono ?_
                rintro e w6 ⟨rfl, rfl⟩
                cases hgv : o.o.gv with
                | false =>
                  as_aux_lemma =>
                    have HG := hid hgv
                    have hce : oprC o p = [ptrV o.tb, .pointer none, ptrV p] := by unfold oprC; rw [hgv]; rfl
                    rw [hce] at hcell
                    have p0 : W.cell? ⟨gA, k * 3, none⟩ = some (.pointer (some ⟨o.tb, 0, none⟩)) := hcell 0 _ rfl
                    have p1 : W.cell? ⟨gA, k * 3 + 1, none⟩ = some (.pointer none) := hcell 1 _ rfl
                    have p2 : W.cell? ⟨gA, k * 3 + 2, none⟩ = some (.pointer (some ⟨p, 0, none⟩)) := hcell 2 _ rfl
                    obtain ⟨St, sw, hqi⟩ := HQI.out
                    have HST := hid (p_opT HT.out hqi HOK.out HLOG.out HO.out HQ.out HP.out hgv)
                    clear hcell hce hgv hqi HIX
                    go_wp2_with fail
                    refine HST.out.mono ?_
                    rintro e w7 ⟨rfl, s7, o7, hg7, hi7, hl7, ht7, hk7⟩
                    have HF := hid (show PMM w w7 c pb mb L qb nb ll (i + 1) (.slice (some ⟨gA, 0, none⟩) xs.length vc) from by
                      have hr7 := (HR.out.out hk7).set HO.out (o := { o with o := o7 }) rfl hg7
                      have hi8 := HI.out.turn HO.out (HQS.out ▸ hi7) hl7
                      have hm : qs.set k o7 = (xs.set k { o with o := o7 }).map POb.o := by rw [HQS.out, List.map_set]
                      rw [hm] at ht7
                      exact ⟨Lo, s7, _, bl, ht7, hr7, hi8⟩)
                    clear hg7 hi7 hl7 ht7 hk7
                    go_wp2
                    go_meet
                    exact ⟨_, rfl, HF⟩
                | true =>
                  as_aux_lemma =>
                    have HG := hid hgv
                    have hce : oprC o p = [.pointer none, ptrV o.tb, ptrV p] := by unfold oprC; rw [hgv]; rfl
                    rw [hce] at hcell
                    have p0 : W.cell? ⟨gA, k * 3, none⟩ = some (.pointer none) := hcell 0 _ rfl
                    have p1 : W.cell? ⟨gA, k * 3 + 1, none⟩ = some (.pointer (some ⟨o.tb, 0, none⟩)) := hcell 1 _ rfl
                    have p2 : W.cell? ⟨gA, k * 3 + 2, none⟩ = some (.pointer (some ⟨p, 0, none⟩)) := hcell 2 _ rfl
                    obtain ⟨St, sw, hqi⟩ := HQI.out
                    have HST := hid (p_opG HT.out hqi HOK.out HLOG.out HO.out HQ.out HP.out hgv)
                    clear hcell hce hgv hqi HIX
                    go_wp2_with fail
                    refine HST.out.mono ?_
                    rintro e w7 ⟨rfl, s7, o7, hg7, hi7, hl7, ht7, hk7⟩
                    have HF := hid (show PMM w w7 c pb mb L qb nb ll (i + 1) (.slice (some ⟨gA, 0, none⟩) xs.length vc) from by
                      have hr7 := (HR.out.out hk7).set HO.out (o := { o with o := o7 }) rfl hg7
                      have hi8 := HI.out.turn HO.out (HQS.out ▸ hi7) hl7
                      have hm : qs.set k o7 = (xs.set k { o with o := o7 }).map POb.o := by rw [HQS.out, List.map_set]
                      rw [hm] at ht7
                      exact ⟨Lo, s7, _, bl, ht7, hr7, hi8⟩)
                    clear hg7 hi7 hl7 ht7 hk7
                    go_wp2
                    go_meet
                    exact ⟨_, rfl, HF⟩
          case rest =>
            as_aux_lemma =>
              obtain ⟨vo2, hvo2, HSM2⟩ := hcut
              obtain rfl : vo2 = _ := hvo2.symm
              clear HT HR HX HLX HI HQS q0 g1 g2 g3 g4 g5 z1 hvo2
              obtain ⟨L2, s2, xs2, bl2, ht2, hr2, hi2⟩ := HSM2.out
              have HT2 := hid ht2
              obtain ⟨St, sw, hq2⟩ := hi2.inv
              have HOA := hid (p_outA HT2.out hq2 HOK.out)
              have HOB := hid (show ∀ w', Keep Nil wc w' → Calls Tryz.prog 42 #[.pointer (some ⟨qb, 0, none⟩)] w' (ROutTo w' (outL c.nT s2.out)) from fun w' hk => p_outB (HT2.out.quiet hk) HOK.out)
              obtain ⟨li, hli⟩ : ∃ li, li = outL c.nT s2.out := ⟨_, rfl⟩
              have HLL := hid (show li.length ≤ 1000000000000 by rw [hli]; have := outL_len c.nT s2.out; have := HNT.out; omega)
              rw [← hli] at HOA HOB
              clear ht2 hr2 hi2 hq2 hli
              go_wp2_with fail
              refine HOA.out.mono ?_
              rintro e w5 ⟨ga, gc, rfl, hg, hk5, -⟩
              have HG := hid (row_rd hg)
              have HK5 := hid hk5
              clear hg hk5 HOA
              go_wp2_with fail
              refine (HOB.out w5 HK5.out).mono ?_
              rintro e w6 ⟨ra, rc, rfl, hrd, hk6⟩
              have HRB := hid hrd
              have HK6 := hid hk6
              clear hrd hk6 HOB
              go_wp2_with fail
              refine (eqI_yes _ _ li _ (rd_keep HG.out HK6.out (fun _ _ h => h)) HRB.out HLL.out).mono ?_
              rintro e w7 ⟨rfl, hk7⟩
              have HF := hid (HSM2.out.quiet (HK5.out.trans (HK6.out.trans hk7 (fun _ _ h => h)) (fun _ _ h => h)))
              clear hk7
              go_wp2
              go_roundw
              case rel => exact ⟨i + 1, _, by omega, by go_num, rfl, HF⟩
              case measure => simp [intOf]; omega
        · as_aux_lemma =>
            obtain rfl : i = es.length := by omega
            have d1 : decide ((es.length : Int) < (es.length : Int)) = false := decide_eq_false (by omega)
            have i1 : ((es.length : Int) < (es.length : Int)) = False := eq_false (by omega)
            clear hlt hi HBD HRD
            have HLE := hid hlen
            obtain ⟨n, hn⟩ : ∃ n, n = es.length := ⟨_, rfl⟩
            obtain ⟨wo, hwo⟩ : ∃ wo : World, wo = wr := ⟨_, rfl⟩
            rw [← hwo] at HSM
            go_wp2
            go_loopw [26] (fun hv wz => ∃ (k : Nat), k ≤ 8 ∧ hv = .int .i64 (k : Int) ∧ Hid (PMM w wz c pb mb L qb nb ll es.length vo)) (fun hv _ => 8 - (intOf hv).toNat)
            case atStart => exact ⟨0, by omega, rfl, hwo ▸ HSM⟩
            case round =>
              obtain ⟨k, hk, rfl, HS⟩ := hrel
              clear HSM hwo
              obtain ⟨L2, s2, xs2, bl2, ht2, hr2, hi2⟩ := HS.out
              have HT2 := hid ht2
              have HI2 := hid hi2
              clear ht2 hr2 hi2
              by_cases hk7 : k ≤ 7
              · have dk : decide ((k : Int) ≤ 7) = true := decide_eq_true (by omega)
                have ik : ((k : Int) ≤ 7) = True := eq_true (by omega)
                have wk : IntKind.i64.wrap ((k : Int) + 1) = (k : Int) + 1 := by rw [IntKind.wrap_i64]; omega
                by_cases hin : 1 ≤ k ∧ k ≤ 6
                · as_aux_lemma =>
                    obtain ⟨A, ob, gb, F, G, hpa⟩ := PMT.pa HT2.out
                    obtain ⟨St, sw, hq2⟩ := HI2.out.inv
                    have hsw : ∀ h, h < 6 → sw h < 4000000000 := fun h hh => by have := hq2.swl h hh; have := HI2.out.log; have := HLE.out; omega
                    have HLA := hid (plist_ok hpa HOK.out hq2.si ⟨hsw 0 (by omega), hsw 1 (by omega), hsw 2 (by omega), hsw 3 (by omega), hsw 4 (by omega), hsw 5 (by omega)⟩ (k : Int) (by omega) (by omega))
                    have HLB := hid (show ∀ w', Keep Nil wr w' → Calls Tryz.prog 44 #[.pointer (some ⟨qb, 0, none⟩), .int .i64 (k : Int)] w' (RListTo w' (St ((k : Int).toNat - 1))) from fun w' hkp => by
                      obtain ⟨B, tb, vb, gr, FR, GR, hrp⟩ := PMT.rpa (HT2.out.quiet hkp)
                      exact r14list_ok hrp HOK.out hq2.si hsw (k : Int) (by omega) (by omega))
                    have hll := hq2.si.len (show (k : Int).toNat - 1 < 6 by omega)
                    obtain ⟨li, hli⟩ : ∃ li, li = St ((k : Int).toNat - 1) := ⟨_, rfl⟩
                    rw [← hli] at HLA HLB hll
                    have HLL := hid (show li.length ≤ 1000000000000 by have := HNT.out; omega)
                    clear hpa hq2 hsw hli hll hin
                    go_wp2_with fail
                    refine HLA.out.mono ?_
                    rintro e w5 ⟨ga, gc, rfl, hg, hk5, -⟩
                    have HG := hid (row_rd hg)
                    have HK5 := hid hk5
                    clear hg hk5 HLA
                    go_wp2_with fail
                    refine (HLB.out w5 HK5.out).mono ?_
                    rintro e w6 ⟨ra, rc, rfl, hrd, hk6⟩
                    have HRB := hid hrd
                    have HK6 := hid hk6
                    clear hrd hk6 HLB
                    go_wp2_with fail
                    refine (eqI_yes _ _ li _ (rd_keep HG.out HK6.out (fun _ _ h => h)) HRB.out HLL.out).mono ?_
                    rintro e w7 ⟨rfl, hk7⟩
                    have HF := hid (HS.out.quiet (HK5.out.trans (HK6.out.trans hk7 (fun _ _ h => h)) (fun _ _ h => h)))
                    clear hk7
                    go_wp2
                    go_roundw
                    case rel => exact ⟨k + 1, by omega, by go_num, HF⟩
                    case measure => simp [intOf]; omega
                · as_aux_lemma =>
                    have hr : (k : Int) < 1 ∨ 6 < (k : Int) := by omega
                    have HR := hid hr
                    clear hin hr
                    go_wp2_with fail
                    refine (plist_range (k : Int) HR.out).mono ?_
                    rintro e w5 ⟨rfl, rfl⟩
                    go_wp2_with fail
                    refine (r14list_range (k : Int) HR.out).mono ?_
                    rintro e w5 ⟨rfl, rfl⟩
                    go_wp2_with fail
                    refine (eqI_yes _ _ [] _ (rd_none _) (rd_none _) (by simp)).mono ?_
                    rintro e w7 ⟨rfl, hk7⟩
                    have HF := hid (HS.out.quiet hk7)
                    clear hk7
                    go_wp2
                    go_roundw
                    case rel => exact ⟨k + 1, by omega, by go_num, HF⟩
                    case measure => simp [intOf]; omega
              · as_aux_lemma =>
                  have dk : decide ((k : Int) ≤ 7) = false := decide_eq_false (by omega)
                  have ik : ((k : Int) ≤ 7) = False := eq_false (by omega)
                  clear hk7 hk HT2 HI2
                  obtain ⟨w2, hw2⟩ : ∃ w2 : World, w2 = wr := ⟨_, rfl⟩
                  rw [← hw2] at HS
                  go_wp2
                  go_loopw [31] (fun tv wz => ∃ (t : Nat), t ≤ 42 ∧ tv = .int .i64 (t : Int) ∧ Hid (PMM w wz c pb mb L qb nb ll es.length vo)) (fun tv _ => 42 - (intOf tv).toNat)
                  case atStart => exact ⟨0, by omega, rfl, hw2 ▸ HS⟩
                  case round =>
                    obtain ⟨t, ht, rfl, HU⟩ := hrel
                    clear HS hw2
                    obtain ⟨L3, s3, xs3, bl3, ht3, hr3, hi3⟩ := HU.out
                    have HT3 := hid ht3
                    have HI3 := hid hi3
                    clear ht3 hr3 hi3
                    by_cases ht7 : t ≤ 41
                    · have dt : decide ((t : Int) ≤ 41) = true := decide_eq_true (by omega)
                      have it : ((t : Int) ≤ 41) = True := eq_true (by omega)
                      have wt : IntKind.i64.wrap ((t : Int) + 1) = (t : Int) + 1 := by rw [IntKind.wrap_i64]; omega
                      obtain ⟨⟨gn, er⟩, hge⟩ : ∃ ge : Int × Int, ge = if 1 ≤ t ∧ t ≤ c.nT then ((s3.gens[t - 1]?).getD 0, 0) else (0, 3) := ⟨_, rfl⟩
                      have HGA := hid (show Calls Tryz.prog 45 #[.pointer (some ⟨pb, 0, none⟩), .int .i64 (t : Int)] wr (fun e w' => e = .returned (.tuple #[.int .i64 gn, .int .i64 er]) ∧ wr = w') by
                        obtain ⟨A, ob, gb, F, G, hpa⟩ := PMT.pa HT3.out
                        by_cases hin : 1 ≤ t ∧ t ≤ c.nT
                        · rw [if_pos hin] at hge
                          simp only [Prod.mk.injEq] at hge
                          obtain ⟨rfl, rfl⟩ := hge
                          obtain ⟨g0, hg0⟩ : ∃ g0, s3.gens[t - 1]? = some g0 := ⟨_, List.getElem?_eq_getElem (by rw [hpa.gl]; omega)⟩
                          rw [hg0]
                          exact pgen_ok hpa HOK.out (t : Int) (by omega) (by omega) g0 (by rw [show (t : Int).toNat - 1 = t - 1 by omega]; exact hg0)
                        · rw [if_neg hin] at hge
                          simp only [Prod.mk.injEq] at hge
                          obtain ⟨rfl, rfl⟩ := hge
                          exact pgen_range hpa (t : Int) (by omega))
                      have HGB := hid (show Calls Tryz.prog 46 #[.pointer (some ⟨qb, 0, none⟩), .int .i64 (t : Int)] wr (fun e w' => e = .returned (.tuple #[.int .i64 gn, .int .i64 er]) ∧ Keep Nil wr w') by
                        obtain ⟨A, tb, vb, gr, FR, GR, hrp⟩ := PMT.rpa HT3.out
                        by_cases hin : 1 ≤ t ∧ t ≤ c.nT
                        · rw [if_pos hin] at hge
                          simp only [Prod.mk.injEq] at hge
                          obtain ⟨rfl, rfl⟩ := hge
                          obtain ⟨g0, hg0⟩ : ∃ g0, s3.gens[t - 1]? = some g0 := ⟨_, List.getElem?_eq_getElem (by rw [hrp.gl]; omega)⟩
                          rw [hg0]
                          obtain ⟨t', rfl⟩ : ∃ t', t = t' + 1 := ⟨t - 1, by omega⟩
                          exact r14gen_ok hrp t' (by omega) g0 hg0
                        · rw [if_neg hin] at hge
                          simp only [Prod.mk.injEq] at hge
                          obtain ⟨rfl, rfl⟩ := hge
                          exact r14gen_range hrp (t : Int) (by omega))
                      have ng : (gn != gn) = false := by simp
                      have ne : (er != er) = false := by simp
                      clear hge HT3 HI3
                      go_wp2_with fail
                      refine HGA.out.mono ?_
                      rintro e w5 ⟨rfl, rfl⟩
                      go_wp2_with fail
                      refine HGB.out.mono ?_
                      rintro e w6 ⟨rfl, hk6⟩
                      have HF := hid (HU.out.quiet hk6)
                      clear hk6
                      go_wp2
                      go_roundw
                      case rel => exact ⟨t + 1, by omega, by go_num, HF⟩
                      case measure => simp [intOf]; omega
                    · as_aux_lemma =>
                        have dt : decide ((t : Int) ≤ 41) = false := decide_eq_false (by omega)
                        have it : ((t : Int) ≤ 41) = False := eq_false (by omega)
                        clear ht7 ht
                        obtain ⟨A, ob, gb, F, G, hpa⟩ := PMT.pa HT3.out
                        obtain ⟨B, tb, vb, gr, FR, GR, hrp⟩ := PMT.rpa HT3.out
                        have hmem := hpa.mem
                        obtain ⟨gw, wc, la, lc, hr, hF⟩ := hrp.mem.rep
                        have hll : s3.log.length < 1000000000000 := by have := HI3.out.log; have := HLE.out; omega
                        clear hpa hrp
                        have s1 := hr.cell1
                        have HRR := hid hr
                        have HMM2 := hid hmem
                        have HOW := hid HU.out.own
                        obtain ⟨lg, hlg⟩ : ∃ lg, lg = s3.log := ⟨_, rfl⟩
                        rw [← hlg] at HRR HMM2 s1 hll
                        have hll' : lg.length ≤ 1000000000000 := by omega
                        have zn : nb < wr.heap.size := lt_of_block hr.head
                        clear hr hF hlg hmem HT3 HI3 HU
                        obtain ⟨wo, rfl⟩ : ∃ wo : World, wo = wr := ⟨_, rfl⟩
                        go_wp2
                        go_region_held3 (fun w' => w'.cell? ⟨nb, 1, none⟩ = some (.slice la lg.length lc)) (go_keep)
                          (first
                            | (go_at_call 48; refine (log14_any (HMM2.out.keep (Keep.refl Nil wo).drew (fun _ _ h => h)) hll).mono ?_; rintro e wA ⟨vA, rfl, rdA, kA'⟩; have kA : Keep Nil wo wA := (Keep.refl Nil wo).drew.trans kA' (fun _ _ h => h); have pA1 := kA.cell s1 (fun h => h); have RA := hid rdA; clear rdA kA')
                            | (go_at_call 47; refine (eqA_yes _ _ lg _ RA.out (rd_keep (row_rd HRR.out.lrow) kA (fun _ _ h => h)) hll').mono ?_; rintro e wD ⟨rfl, kD'⟩; have kD : Keep Nil wo wD := kA.trans kD' (fun _ _ h => h); have pD1 := kD.cell s1 (fun h => h); clear kD'))
                        go_wp2
                        go_ret
                        exact ⟨rfl, HOW.out.trans kD (fun _ _ h => h)⟩
end
end Go.Proofs.YtjghenomeindcaaGreat
