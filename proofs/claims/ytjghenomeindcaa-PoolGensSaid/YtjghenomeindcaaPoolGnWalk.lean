/- PoolGens: the walk. -/
import Derived.Test.YtjghenomeindcaaPoolGn
import Derived.Test.YtjghenomeindcaaPoolSkWalk
import Derived.Test.YtjghenomeindcaaOpenCap
set_option linter.unusedVariables false
set_option linter.unusedSimpArgs false
namespace Go.Proofs.Ytjghenomeindcaa
open Go.RowKit Go.Lf
section
variable {w w' : World}
/-- The array of the counts. -/
def gnCells (zs : List Int) : List Value := zs.map (Value.int .i64)
theorem gn_at {zs : List Int} {i : Nat} {x : Int} (h : zs[i]? = some x) : (gnCells zs)[i]? = some (.int .i64 x) := by simp [gnCells, h]
/-- The run and the counts beside it. -/
structure GnAt (w wz : World) (c : Cfg) (R : PRun) (rb pb L gk N : Nat) (own : Nat → Option Nat) (f : Nat → Nat → Value) (zs : List Int) : Prop where
  run : RunAt ⟨w, Nil⟩ wz c R rb pb L own f
  good : PGood c R N
  gi : GnI R zs
  arr : wz.heap[gk]? = some (.cells (gnCells zs).toArray 67 (0, 0))
  free : own gk = none
  new : w.heap.size ≤ gk
def GnTo (w : World) (c : Cfg) (R : PRun) (rb pb L gk N : Nat) (wz : World) : Prop := ∃ own f zs, GnAt w wz c R rb pb L gk N own f zs
theorem gn_lit : (gnCells (List.replicate 64 0)).toArray = #[Value.int .i64 0, Value.int .i64 0, Value.int .i64 0, Value.int .i64 0, Value.int .i64 0, Value.int .i64 0, Value.int .i64 0, Value.int .i64 0, Value.int .i64 0, Value.int .i64 0, Value.int .i64 0, Value.int .i64 0, Value.int .i64 0, Value.int .i64 0, Value.int .i64 0, Value.int .i64 0, Value.int .i64 0, Value.int .i64 0, Value.int .i64 0, Value.int .i64 0, Value.int .i64 0, Value.int .i64 0, Value.int .i64 0, Value.int .i64 0, Value.int .i64 0, Value.int .i64 0, Value.int .i64 0, Value.int .i64 0, Value.int .i64 0, Value.int .i64 0, Value.int .i64 0, Value.int .i64 0, Value.int .i64 0, Value.int .i64 0, Value.int .i64 0, Value.int .i64 0, Value.int .i64 0, Value.int .i64 0, Value.int .i64 0, Value.int .i64 0, Value.int .i64 0, Value.int .i64 0, Value.int .i64 0, Value.int .i64 0, Value.int .i64 0, Value.int .i64 0, Value.int .i64 0, Value.int .i64 0, Value.int .i64 0, Value.int .i64 0, Value.int .i64 0, Value.int .i64 0, Value.int .i64 0, Value.int .i64 0, Value.int .i64 0, Value.int .i64 0, Value.int .i64 0, Value.int .i64 0, Value.int .i64 0, Value.int .i64 0, Value.int .i64 0, Value.int .i64 0, Value.int .i64 0, Value.int .i64 0] := rfl
section
variable {w w1 w2 wz : World} {c : Cfg} {R : PRun} {rb pb L gk N : Nat} {own : Nat → Option Nat} {f : Nat → Nat → Value} {zs : List Int}
theorem gn_new (h : RunAt ⟨w, Nil⟩ w2 c (PRun.init c) rb pb L own f) (hok : c.ok) (hn : c.nT ≤ 40) : GnTo w c (PRun.init c) rb pb L w2.heap.size 0 (w2.alloc (.cells (gnCells (List.replicate 64 0)).toArray 67 (0, 0))) :=
  ⟨own, f, _, h.quiet ((Keep.refl Nil w2).alloc _), PGood.init hok, ⟨List.length_replicate, fun i g hg => by
    have hg' : (List.replicate c.nT (0 : Int))[i]? = some g := hg
    have hl := (List.getElem?_eq_some_iff.1 hg').1
    rw [List.length_replicate] at hl
    rw [List.getElem?_replicate, if_pos hl] at hg'
    rw [List.getElem?_replicate, if_pos (by omega)]
    exact hg'⟩, heap_alloc_new w2 _, by
    cases ho : own w2.heap.size with
    | none => rfl
    | some t => have := (h.olt _ (by rw [ho]; simp)).2; omega, h.kp.size⟩
/-- What one act leaves. -/
structure GnMid (w wz : World) (c : Cfg) (R : PRun) (rb pb L gk N : Nat) (own : Nat → Option Nat) (f : Nat → Nat → Value) (zs : List Int) : Prop where
  run : RunAt ⟨w, Nil⟩ wz c R rb pb L own f
  good : PGood c R N
  arr : wz.heap[gk]? = some (.cells (gnCells zs).toArray 67 (0, 0))
  free : own gk = none
  new : w.heap.size ≤ gk
def MidTo (w : World) (c : Cfg) (R : PRun) (rb pb L gk N : Nat) (zs : List Int) (wz : World) : Prop := ∃ own f, GnMid w wz c R rb pb L gk N own f zs
theorem cell_lt {W : World} {b i : Nat} {v : Value} (h : W.cell? ⟨b, i, none⟩ = some v) : b < W.heap.size := by
  rcases Nat.lt_or_ge b W.heap.size with h1 | h1
  · exact h1
  · exfalso
    have : W.heap[b]? = none := Array.getElem?_eq_none h1
    simp [World.cell?, this] at h
theorem GnAt.play (h : GnAt w wz c R rb pb L gk N own f zs) (hok : c.ok) (hN : N ≤ 1000) {x : PAct} (hx : x.wf) {xb xo cp : Nat} (hrd : Rd w 3 (.slice (some ⟨xb, xo, none⟩) [x].length cp) [x].length (pactCells [x])) :
    Calls Try.prog 9 #[.pointer (some ⟨rb, 0, none⟩), .slice (some ⟨xb, xo, none⟩) [x].length cp, .bool false] wz fun e w' => e = .returned (.bool true) ∧ MidTo w c (x.run c R) rb pb L gk (N + 1) zs w' := by
  have hxb : xb < w.heap.size := by
    obtain ⟨b, off, c', hv, hc⟩ := Rd.cell hrd (Nat.zero_lt_one)
    simp only [Value.slice.injEq, Option.some.injEq, Addr.mk.injEq] at hv
    obtain ⟨⟨rfl, rfl, -⟩, -, -⟩ := hv
    exact cell_lt (hc 0 _ rfl)
  refine (pplay_ok h.run.here h.good hok _ cp [x] (rd_keep hrd h.run.kp (fun _ _ h => h)) (fun k e hk => ?_) (fun y hy => by rw [List.mem_singleton.1 hy]; exact hx) (show 1 ≤ 1000 by decide) (by omega) false (fun e => by cases e)).mono ?_
  · cases e
    have := (h.run.olt _ hk).1.resolve_right (fun h => h)
    have e2 : w.heap.size ≤ xb := this
    omega
  · rintro e w' ⟨rfl, own', f', h'⟩
    refine ⟨rfl, own', f', h.run.under h', h.good.run hok x, h'.kp.at h.arr (fun e => e h.free), ?_, h.new⟩
    cases ho : own' gk with
    | none => rfl
    | some u =>
      rcases (h'.olt gk (by rw [ho]; simp)).1 with e | e
      · have e2 : wz.heap.size ≤ gk := e
        have := lt_of_block h.arr
        omega
      · exact absurd h.free e
theorem GnAt.quiet {W : World} (h : GnAt w wz c R rb pb L gk N own f zs) (hk : Keep Nil wz W) : GnAt w W c R rb pb L gk N own f zs := ⟨h.run.quiet hk, h.good, h.gi, hk.at h.arr (fun h => h), h.free, h.new⟩
/-- The tower that thread t gives back. -/
theorem giv_tower {t : Nat} (hi : PInv c R) (hn : c.nT ≤ 40) (hl : (R.s.log.length : Int) ≤ 1000) (ht : t < 6) (hg : givB R t = true) : ∃ (y : Nat) (g0 : Int), R.of t = (y : Int) ∧ 1 ≤ y ∧ y ≤ 40 ∧ R.s.gens[y - 1]? = some g0 ∧ 0 ≤ g0 ∧ g0 ≤ 1000 := by
  unfold givB at hg
  cases ho : R.ops t with
  | none => rw [ho] at hg; cases hg
  | some o =>
    rw [ho] at hg
    simp only at hg
    obtain ⟨h1, -, h2, -⟩ := hi.op t o ht ho
    rw [if_pos hg] at h2
    obtain ⟨a1, a2, -⟩ := h1.gw hg
    obtain ⟨g0, hg0⟩ : ∃ g0, R.s.gens[o.tw.toNat - 1]? = some g0 := ⟨_, List.getElem?_eq_getElem (by have := hi.si.gl; omega)⟩
    have := hi.gb _ _ hg0
    exact ⟨o.tw.toNat, g0, by omega, by omega, by omega, hg0, by omega, by omega⟩
theorem GnMid.same (h : GnMid w wz c R rb pb L gk N own f zs) {R0 : PRun} (hg : GnI R0 zs) (e : R.s.gens = R0.s.gens) : GnAt w wz c R rb pb L gk N own f zs := ⟨h.run, h.good, hg.same e, h.arr, h.free, h.new⟩
theorem GnMid.add (h : GnMid w wz c R rb pb L gk N own f zs) {R0 : PRun} (hg : GnI R0 zs) {y : Nat} (hy : 1 ≤ y) {g0 : Int} (hg0 : R0.s.gens[y - 1]? = some g0) (e : R.s.gens = R0.s.gens.set (y - 1) (g0 + 1)) : GnAt w (wz.setCell ⟨gk, y, none⟩ (.int .i64 (g0 + 1))) c R rb pb L gk N own f (zs.set y (g0 + 1)) :=
  ⟨h.run.beside (S := fun k => k = gk) ((Keep.refl (fun k => k = gk) wz).setCell (.inl rfl) _) (fun k e => ⟨e ▸ h.free, fun hlt => absurd hlt (by rw [e]; have := h.new; show ¬ gk < w.heap.size; omega)⟩), h.good, hg.set hy hg0 e, by rw [set_same h.arr _, List.setIfInBounds_toArray]; simp [gnCells, List.map_set], h.free, h.new⟩
theorem infoPAct : (Try.prog.info? 69).map (fun i => (i.size)) = some 3 := by kernel_rfl
theorem pact_slice (xb xo n cp k : Nat) (hk : k < n) (hc : n ≤ cp) (W : World) : (Instr.slice 23 (.slice (some ⟨xb, xo, none⟩) n cp) (some (.int .i64 k)) (some (.int .i64 (k + 1))) none).run Try.prog W = .ok (.slice (some ⟨xb, xo + k * 3, none⟩) 1 (cp - k)) W := by
  obtain ⟨i, hi, hz⟩ : ∃ i, Try.prog.info? 69 = some i ∧ i.size = 3 := by
    have := infoPAct
    cases h : Try.prog.info? 69 with
    | none => rw [h] at this; cases this
    | some i => rw [h] at this; exact ⟨i, rfl, by simpa using this⟩
  have q1 : ¬ cp = k := by omega
  simp [Instr.slice, run_underlying Try.underlying23, Instr.sliceBounds, Instr.sliceBound, asIntOf, sizeOf, typeInfo, hi, hz, Result.andThen, addr_add, q1, show (k : Int) + 1 ≤ cp by omega, show (0 : Int) ≤ (k : Int) + 1 by omega]
  try omega
end
set_option maxRecDepth 100000 in
set_option maxHeartbeats 4000000 in
theorem walk_pgens (w : World) (zs : List Int) (hz : zs.length = 6) (hwf : ∀ z ∈ zs, (Lit.int .i64 z).wf = true) (v : Value) (l : List PAct) (hrd : Rd w 3 v l.length (pactCells l)) (hl : ∀ x ∈ l, x.wf) (hm : l.length ≤ maxLen ∧ CapOk v) :
    Calls Try.prog 6 #[.agg (zs.map (Value.int .i64)).toArray, v] w fun e w' => e = .returned (.bool true) ∧ Keep Nil w w' := by
  obtain ⟨hm, hcap⟩ := hm
  unfold maxLen at hm
  obtain ⟨a, cp, rfl, -⟩ : ∃ a c, v = .slice a l.length c ∧ True := by obtain ⟨a, c, h, -⟩ := hrd; exact ⟨a, c, h, trivial⟩
  obtain ⟨y1, y2, y3, y4, y5, y6, rfl⟩ : ∃ y1 y2 y3 y4 y5 y6, zs = [y1, y2, y3, y4, y5, y6] := by
    match zs, hz with
    | [a, b, c, d, e, f], _ => exact ⟨a, b, c, d, e, f, rfl⟩
  have HF := hid (fun W => show Calls Try.prog 7 #[.agg #[.int .i64 y1, .int .i64 y2, .int .i64 y3, .int .i64 y4, .int .i64 y5, .int .i64 y6]] W _ from few_ok W [y1, y2, y3, y4, y5, y6] rfl hwf)
  have hcp : l.length ≤ cp := hcap _ _ _ rfl
  have HRD := hid hrd
  have HL := hid hl
  have HBX := hid (heap_alloc_new w (.cells #[.int .i64 y1, .int .i64 y2, .int .i64 y3, .int .i64 y4, .int .i64 y5, .int .i64 y6] 22 (0, 0)))
  clear hz hwf hrd hl hcap
  simp only [List.map_cons, List.map_nil]
  go_enter Try.func6, Try.ntmps6
  go_wp2_with fail
  refine (HF.out _).mono ?_
  rintro e w1 ⟨⟨b, rfl, hb⟩, hk1⟩
  have HK1 := hid (((Keep.refl Nil w).alloc _).trans hk1 (fun _ _ h => h))
  obtain ⟨x1, x2, x3, x4, x5, x6⟩ := box6 (hk1.at HBX.out (fun h => h))
  have HB := hid hb
  clear hk1 hb HF HBX
  cases b with
  | false =>
    go_wp2
    go_ret
    exact ⟨rfl, HK1.out⟩
  | true =>
    by_cases hlen : l.length > 400
    · have d0 : decide ((l.length : Int) > 400) = true := decide_eq_true (by omega)
      go_wp2
      go_ret
      exact ⟨rfl, HK1.out⟩
    · have d0 : decide ((l.length : Int) > 400) = false := decide_eq_false (by omega)
      obtain ⟨t1, t2, t3, t4, t5, t6, rfl, rfl, rfl, rfl, rfl, rfl, hs⟩ := few_six (HB.out rfl)
      have hok := pcfg_ok (ts := [t1, t2, t3, t4, t5, t6]) rfl hs
      have hnT : (pcfg [t1, t2, t3, t4, t5, t6]).nT ≤ 40 := by rw [pcfg_nT]; exact hs
      have HBG := hid (begin_ok w1 t1 t2 t3 t4 t5 t6 hs)
      generalize pcfg [t1, t2, t3, t4, t5, t6] = c at hok hnT HBG
      have HOK := hid hok
      have HLE := hid (show l.length ≤ 400 from by omega)
      clear HB hs hok hlen
      go_wp2_with fail
      refine HBG.out.mono ?_
      rintro e w2 ⟨rb, pb, L, own, f, rfl, h⟩
      have HR := hid (h.from HK1.out)
      have HG := hid (PGood.init HOK.out)
      clear h HBG
      go_wp2_with fail
      have hgn := gn_new HR.out HOK.out hnT
      rw [gn_lit] at hgn
      have HGN := hid hgn
      clear hgn HR HG
      go_wp2
      generalize w2.alloc _ = w3 at HGN ⊢
      generalize w2.heap.size = gk at HGN ⊢
      go_loopw [7] (fun i wz => ∃ k : Nat, k ≤ l.length ∧ i = .int .i64 (k : Int) ∧ Hid (GnTo w c ((PRun.init c).acts c (l.take k)) rb pb L gk k wz)) (fun i _ => l.length - (intOf i).toNat)
      case atStart => exact ⟨0, Nat.zero_le _, rfl, HGN⟩
      case round =>
        clear HGN
        obtain ⟨k, hk, rfl, HR⟩ := hrel
        by_cases hlt : k < l.length
        · obtain ⟨x, hx⟩ : ∃ x, l[k]? = some x := ⟨_, List.getElem?_eq_getElem (by omega)⟩
          have hxw := HL.out x (List.mem_of_getElem? hx)
          obtain ⟨xb, xo, xc, hve, hc⟩ := Rd.cell HRD.out (by omega)
          simp only [Value.slice.injEq] at hve
          obtain ⟨rfl, -, rfl⟩ := hve
          obtain ⟨own1, f1, zs, hR⟩ := HR.out
          have hrd1 : Rd w 3 (.slice (some ⟨xb, xo + k * 3, none⟩) [x].length (cp - k)) [x].length (pactCells [x]) := by
            refine ⟨_, _, rfl, rfl, .inr <| .inl ⟨xb, xo + k * 3, rfl, fun j u hu => ?_⟩⟩
            rw [Nat.add_assoc]
            refine hc _ _ (pactCells_at hx ?_)
            simpa [pactCells] using hu
          have HP := hid (fun W (hq : Keep Nil wr W) => (hR.quiet hq).play HOK.out (by have := HLE.out; omega) hxw hrd1)
          have hag := act_gens (g := x.gv) hR.good.inv (hR.good.inv.begs HOK.out (t := (x.th % 6).toNat) (by omega) x.gv (k := (1 + x.hg % 6).toNat) (by have := u8_wfp hxw.2; omega) (by omega)) (by omega)
          obtain ⟨R2, hR2⟩ : ∃ R2, R2 = (PRun.init c).acts c (l.take (k + 1)) := ⟨_, rfl⟩
          have hsn : x.run c ((PRun.init c).acts c (l.take k)) = R2 := by rw [hR2, List.take_add_one, hx]; exact (acts_snoc _ _ _ _).symm
          rw [show ((PRun.init c).acts c (l.take k)).act c (x.th % 6).toNat x.gv (1 + x.hg % 6).toNat = R2 from hsn] at hag
          generalize (PRun.init c).acts c (l.take k) = R at *
          rw [hsn] at HP
          obtain ⟨h0, h1⟩ := u8_wfp hxw.1
          obtain ⟨t, ht⟩ : ∃ t : Nat, t = (x.th % 6).toNat := ⟨_, rfl⟩
          have t6 : t < 6 := by omega
          have ew : IntKind.i64.wrap (x.th.tmod 6) = (t : Int) := by rw [Int.tmod_eq_emod_of_nonneg h0, IntKind.wrap_i64]; omega
          have cx : wr.cell? ⟨xb, xo + k * 3, none⟩ = some (.int .u8 x.th) := (hR.run.kp).cell (hc _ _ (pactCells_at hx (j := 0) rfl)) (fun h => h)
          have c8 := hR.run.cell (j := 1) (i := t) (by decide) t6
          have c14 := hR.run.cell (j := 2) (i := t) (by decide) t6
          rw [hR.run.of t t6] at c14
          have HGV := hid (hR.run.givc t6)
          have hsl := pact_slice xb xo l.length cp k hlt hcp
          have HR1 := hid hR
          have HAG := hid hag
          have HR2 := hid hR2
          rw [← ht] at HAG
          have HT := hid ht
          have kl : (k : Int) < (l.length : Int) := by omega
          have k0 : (0 : Int) ≤ (k : Int) := by omega
          have t0 : (0 : Int) ≤ (t : Int) := by omega
          have tt : (t : Int) < 6 := by omega
          clear hxw hc hrd1 hsn hR HR hx ht h0 h1 hag hR2
          generalize f1 1 t = v8 at c8 HGV
          rcases HGV.out with ⟨g0, rfl⟩ | ⟨g0, tb, rfl⟩
          · go_wp2
            go_quiet (fail)
            go_wp2_with fail
            refine (HP.out _ (Keep.drewN (Keep.refl Nil wr) _)).mono ?_
            rintro e w5 ⟨rfl, own5, f5, hm5⟩
            have H5 := hid (show GnTo w c R2 rb pb L gk (k + 1) w5 from ⟨own5, f5, zs, hm5.same HR1.out.gi (by rw [HAG.out, if_neg (fun h => by rw [g0] at h; cases h.1)])⟩)
            clear hm5 HP HGV HAG HR1 cx c8 c14 hsl
            go_wp2
            go_roundw
            case rel => exact ⟨k + 1, by omega, by go_num, HR2.out ▸ H5⟩
            case measure => simp [intOf]; omega
          · obtain ⟨y, gg, hof, y1, y40, hgg, gg0, gg1⟩ := giv_tower HR1.out.good.inv hnT (by have := HR1.out.good.log; have := HLE.out; omega) t6 g0
            rw [hof] at c14
            go_wp2
            go_quiet (fail)
            go_wp2_with fail
            refine (HP.out _ (Keep.drewN (Keep.refl Nil wr) _)).mono ?_
            rintro e w5 ⟨rfl, own5, f5, hm5⟩
            have HM5 := hid hm5
            have d8 := hm5.run.cell (j := 1) (i := t) (by decide) t6
            have HGV5 := hid (hm5.run.givc t6)
            have cy : w5.cell? ⟨gk, y, none⟩ = some (.int .i64 gg) := by
              rw [cell_of hm5.arr]
              have h1 := HR1.out.gi.2 _ _ hgg
              rw [show y - 1 + 1 = y by omega] at h1
              simpa using gn_at h1
            have zy : w5.frozen? ⟨gk, y, none⟩ = false := free_of hm5.arr y
            generalize f5 1 t = v85 at d8 HGV5
            have HGG := hid hgg
            have HOF := hid hof
            clear hm5 HP HGV cx c8 c14 hsl hgg hof
            rcases HGV5.out with ⟨g5, rfl⟩ | ⟨g5, tb5, rfl⟩
            · have H6 := hid (HM5.out.add HR1.out.gi y1 HGG.out (by rw [HAG.out, if_pos ⟨g0, g5⟩, HOF.out, show ((y : Int)).toNat = y by omega, HGG.out]; rfl))
              have y0 : (0 : Int) ≤ (y : Int) := by omega
              have y64 : (y : Int) < 64 := by omega
              clear HAG HM5 HR1 HGV5
              go_wp2
              refine ⟨⟨k + 1, by omega, by go_num, hid (HR2.out ▸ ⟨own5, f5, _, H6.out⟩)⟩, ?_⟩
              simp [intOf]
              omega
            · have H5 := hid (show GnTo w c R2 rb pb L gk (k + 1) w5 from ⟨own5, f5, zs, HM5.out.same HR1.out.gi (by rw [HAG.out, if_neg (fun h => by rw [g5] at h; cases h.2)])⟩)
              clear HAG HM5 HR1 HGV5
              go_wp2
              go_roundw
              case rel => exact ⟨k + 1, by omega, by go_num, HR2.out ▸ H5⟩
              case measure => simp [intOf]; omega
        · obtain rfl : k = l.length := by omega
          rw [List.take_length] at HR
          obtain ⟨own1, f1, zs, hR⟩ := HR.out
          generalize (PRun.init c).acts c l = R at *
          obtain ⟨A, ⟨mb, ob, gb, F, G, hpa⟩, -⟩ := hR.run.pl
          have q0 := hR.run.cell0.1
          have q1 := hR.run.cell0.2
          have HTW := hid (towers_ok hpa.lay.at_)
          have HPG := hid (fun x x1 x2 g hg => pgen_ok hpa HOK.out x x1 x2 g hg)
          have HGL := hid hR.good.inv.si.gl
          have HCY := hid (show ∀ (i : Nat) (g : Int), R.s.gens[i]? = some g → wr.cell? ⟨gk, i + 1, none⟩ = some (.int .i64 g) from fun i g hg => by
            rw [cell_of hR.arr]
            simpa using gn_at (hR.gi.2 _ _ hg))
          have HKP := hid hR.run.kp
          have wo : ∃ wo : World, wo = wr := ⟨_, rfl⟩
          obtain ⟨wo, hwo⟩ := wo
          rw [← hwo] at q0 q1 HTW HPG HCY HKP ⊢
          clear hwo hR HR hpa
          go_wp2
          go_loopw [11] (fun i wz => ∃ n : Nat, 1 ≤ n ∧ n ≤ c.nT + 1 ∧ i = .int .i64 (n : Int) ∧ wo = wz) (fun i _ => c.nT + 1 - (intOf i).toNat)
          case atStart => exact ⟨1, by omega, by omega, rfl, by first | rfl | trivial⟩
          case round =>
            obtain ⟨n, n1, n2, rfl, rfl⟩ := hrel
            by_cases hn : n ≤ c.nT
            · have b0 : decide ((n : Int) ≤ (c.nT : Int)) = true := decide_eq_true (by omega)
              obtain ⟨g, hg⟩ : ∃ g, R.s.gens[n - 1]? = some g := ⟨_, List.getElem?_eq_getElem (by have := HGL.out; omega)⟩
              have cy := HCY.out _ _ hg
              rw [show n - 1 + 1 = n by omega] at cy
              have n0 : (0 : Int) ≤ (n : Int) := by omega
              have n64 : (n : Int) < 64 := by omega
              have HP := hid (HPG.out n (by omega) (by omega) g (by rw [show ((n : Int)).toNat - 1 = n - 1 by omega]; exact hg))
              clear hg
              go_wp2_with fail
              refine HTW.out.mono ?_
              rintro e w6 ⟨rfl, rfl⟩
              go_wp2_with fail
              refine HP.out.mono ?_
              rintro e w6 ⟨rfl, rfl⟩
              go_wp2
              refine ⟨⟨n + 1, by omega, by omega, by go_num, trivial⟩, ?_⟩
              simp [intOf]
              omega
            · have b0 : decide ((n : Int) ≤ (c.nT : Int)) = false := decide_eq_false (by omega)
              go_wp2_with fail
              refine HTW.out.mono ?_
              rintro e w6 ⟨rfl, rfl⟩
              go_wp2_with fail
              refine (simple_ok _).mono ?_
              rintro e w6 ⟨rfl, hk6⟩
              have HK6 := hid (HKP.out.trans hk6 (fun _ _ h => h))
              clear hk6
              go_wp2
              go_ret
              exact ⟨rfl, HK6.out⟩
end
end Go.Proofs.Ytjghenomeindcaa
