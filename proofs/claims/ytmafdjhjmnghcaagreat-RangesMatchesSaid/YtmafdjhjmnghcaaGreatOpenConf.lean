/- Arguments opened: a configuration. -/
import Derived.Test.YtmafdjhjmnghcaaGreatProg
import Derived.Test.YtmafdjhjmnghcaaGreatOpenBase
import Derived.Test.YtmafdjhjmnghcaaGreatOpenArr
import Derived.Test.YtmafdjhjmnghcaaGreatDomPlain
import Derived.ProofKit
import Derived.OpenShut
set_option linter.unusedVariables false
set_option linter.unusedSimpArgs false
namespace Go.Proofs.YtmafdjhjmnghcaaGreat
open Go.RowKit Go.Lf Go.ChangeShapes Go.WideShapes Go.ChangeAt

/-- A configuration as it comes in. -/
structure ConfV where
  th : Int
  sl : Int
  eng : Int
  bk : Int
  k : Int
  n : Int
  cuts : List Int
  a : Option Addr
  cp : Nat
  t1 : Int
  t2 : Int
  t3 : Int
  t4 : Int
  t5 : Int
  t6 : Int
  lk : Int
  tr : Int
  ba : Int
@[reducible] def ConfV.val (z : ConfV) : Value := .agg #[.int .i64 z.th, .int .i64 z.sl, .int .u8 z.eng, .int .i64 z.bk, .int .u8 z.k, .int .i64 z.n, .slice z.a z.cuts.length z.cp, .int .i64 z.t1, .int .i64 z.t2, .int .i64 z.t3, .int .i64 z.t4, .int .i64 z.t5, .int .i64 z.t6, .int .i64 z.lk, .int .i64 z.tr, .int .i64 z.ba]
structure ConfArg (w : World) (z : ConfV) : Prop where
  w_th : (Lit.int .i64 z.th).wf = true
  w_sl : (Lit.int .i64 z.sl).wf = true
  w_eng : (Lit.int .u8 z.eng).wf = true
  w_bk : (Lit.int .i64 z.bk).wf = true
  w_k : (Lit.int .u8 z.k).wf = true
  w_n : (Lit.int .i64 z.n).wf = true
  rd : Rd w 1 (.slice z.a z.cuts.length z.cp) z.cuts.length (z.cuts.map (Value.int .u64))
  w_cuts : ∀ x ∈ z.cuts, (Lit.int .u64 x).wf = true
  w_t1 : (Lit.int .i64 z.t1).wf = true
  w_t2 : (Lit.int .i64 z.t2).wf = true
  w_t3 : (Lit.int .i64 z.t3).wf = true
  w_t4 : (Lit.int .i64 z.t4).wf = true
  w_t5 : (Lit.int .i64 z.t5).wf = true
  w_t6 : (Lit.int .i64 z.t6).wf = true
  w_lk : (Lit.int .i64 z.lk).wf = true
  w_tr : (Lit.int .i64 z.tr).wf = true
  w_ba : (Lit.int .i64 z.ba).wf = true
  len : z.cuts.length ≤ maxLen
theorem open_ints_cs {H : Type} {enc : TypeId × Value → H} {P : Program} {W : World} {t e : TypeId} {k : IntKind} {n : Nat} {cs : List Value} {x : DataW H × List MemPlace} (ht : P.underlying t = some (.slice e)) (he : P.underlying e = some (.int k)) (hc : P.cellsOf e = 1)
    (hf : DataW.trod enc P W 0 (fun _ => true) true n t cs = some x) :
    ∃ (a : Option Addr) (zs : List Int) (cap : Nat), cs = [.slice a zs.length cap] ∧ Rd W 1 (.slice a zs.length cap) zs.length (zs.map (Value.int k)) ∧ (∀ n ∈ zs, (Lit.int k n).wf = true) ∧ zs.length ≤ maxLen := by
  rcases open_ints ht he hc hf with ⟨hcs, _⟩ | ⟨x, len, cap, zs, hcs, _, hl, hm, hz, _, hcell, hwz⟩
  · exact ⟨none, [], 0, hcs, ⟨_, _, rfl, by simp, .inl ⟨rfl, rfl, rfl⟩⟩, by simp, Nat.zero_le _⟩
  · have hz' : zs.length = cap := by simpa using hz
    have hlen : (zs.take len).length = len := by rw [List.length_take]; omega
    refine ⟨some x, zs.take len, cap, by rw [hlen]; exact hcs, ?_, fun n hn => hwz n (List.mem_of_mem_take hn), by omega⟩
    rw [hlen]
    obtain ⟨b, off, sp⟩ := x
    refine ⟨_, cap, rfl, by rw [List.length_map, hlen, Nat.mul_one], ?_⟩
    rcases Nat.eq_zero_or_pos zs.length with h0 | h0
    · rcases sp with _ | s
      · exact .inr <| .inr ⟨⟨_, rfl⟩, by omega⟩
      · exact .inr <| .inr ⟨⟨_, rfl⟩, by omega⟩
    · have h1 := hcell 0 h0
      have hsp : sp = none := by simpa [Addr.add] using World.cell?_spot h1
      subst hsp
      refine .inr <| .inl ⟨b, off, rfl, fun j u hu => ?_⟩
      rw [List.getElem?_map] at hu
      obtain ⟨y, hy, rfl⟩ := Option.map_eq_some_iff.1 hu
      have hj := (List.getElem?_eq_some_iff.1 hy).1
      have h2 := hcell j (by omega)
      rw [addr_add] at h2
      rw [h2]
      rw [List.getElem?_take] at hy
      split at hy
      · simp [hy]
      · cases hy

theorem arr6_of {H : Type} {enc : TypeId × Value → H} {P : Program} {W : World} {t e : TypeId} {m : Nat} {c0 c1 c2 c3 c4 c5 : Value} {x : DataW H × List MemPlace} (ht : P.underlying t = some (.array 6 e)) (he : P.underlying e = some (.int .i64)) (hce : P.cellsOf e = 1)
    (h : DataW.trod enc P W 0 (fun _ => true) true m t [c0, c1, c2, c3, c4, c5] = some x) :
    ∃ a0 a1 a2 a3 a4 a5 : Int, (c0 = .int .i64 a0 ∧ c1 = .int .i64 a1 ∧ c2 = .int .i64 a2 ∧ c3 = .int .i64 a3 ∧ c4 = .int .i64 a4 ∧ c5 = .int .i64 a5) ∧ (Lit.int .i64 a0).wf = true ∧ (Lit.int .i64 a1).wf = true ∧ (Lit.int .i64 a2).wf = true ∧ (Lit.int .i64 a3).wf = true ∧ (Lit.int .i64 a4).wf = true ∧ (Lit.int .i64 a5).wf = true := by
  obtain ⟨xs, m', -, -, hl, hxl, hel⟩ := DataW.trod_array ht h
  rw [hce] at hel
  have key : ∀ i, i < 6 → ∃ z : Int, [c0, c1, c2, c3, c4, c5][i]? = some (.int .i64 z) ∧ (Lit.int .i64 z).wf = true := by
    intro i hi
    obtain ⟨x, hx⟩ : ∃ x, xs[i]? = some x := ⟨_, List.getElem?_eq_getElem (by omega)⟩
    have hq := hel i hi
    rw [hx, Nat.mul_one] at hq
    obtain ⟨z, hz, -, hw⟩ := DataW.trod_int he hq
    have hc := one_field hz
    exact ⟨z, hc, hw⟩
  obtain ⟨z0, h0, w0⟩ := key 0 (by decide)
  obtain ⟨z1, h1, w1⟩ := key 1 (by decide)
  obtain ⟨z2, h2, w2⟩ := key 2 (by decide)
  obtain ⟨z3, h3, w3⟩ := key 3 (by decide)
  obtain ⟨z4, h4, w4⟩ := key 4 (by decide)
  obtain ⟨z5, h5, w5⟩ := key 5 (by decide)
  simp at h0 h1 h2 h3 h4 h5
  exact ⟨z0, z1, z2, z3, z4, z5, ⟨h0, h1, h2, h3, h4, h5⟩, w0, w1, w2, w3, w4, w5⟩

set_option maxRecDepth 100000 in
theorem open_Config {H : Type} {enc : TypeId × Value → H} {W : World} {v : Value} {d : DataW H} {p : List MemPlace} {base : Nat}
    (hv : Value.okWide Tryz.prog W .any base 45 v) (h : DataW.Trod enc Tryz.prog W 0 (fun _ => true) true 45 v d p) :
    ∃ z : ConfV, v = z.val ∧ ConfArg W z := by
  obtain ⟨cs, rfl, hsz⟩ := okWide_struct Tryz.underlying45 hv
  obtain ⟨fuel, hf⟩ := h
  obtain ⟨xs, m, _, _, hl, hxl, hg⟩ := DataW.trod_struct Tryz.underlying45 hf
  simp only [Value.cells] at hl hg
  have hl' : cs.toList.length = 16 := hl.trans (by kernel_rfl)
  obtain ⟨cl⟩ := cs
  obtain ⟨c0, c1, c2, c3, c4, c5, c6, c7, c8, c9, c10, c11, c12, c13, c14, c15, rfl⟩ : ∃ c0 c1 c2 c3 c4 c5 c6 c7 c8 c9 c10 c11 c12 c13 c14 c15, cl = [c0, c1, c2, c3, c4, c5, c6, c7, c8, c9, c10, c11, c12, c13, c14, c15] := by
    match cl, hl' with
    | [a0, a1, a2, a3, a4, a5, a6, a7, a8, a9, a10, a11, a12, a13, a14, a15], _ => exact ⟨a0, a1, a2, a3, a4, a5, a6, a7, a8, a9, a10, a11, a12, a13, a14, a15, rfl⟩
  obtain ⟨x0, x1, x2, x3, x4, x5, x6, x7, x8, rfl⟩ : ∃ x0 x1 x2 x3 x4 x5 x6 x7 x8, xs = [x0, x1, x2, x3, x4, x5, x6, x7, x8] := by
    match xs, (show xs.length = 9 from hxl) with
    | [a0, a1, a2, a3, a4, a5, a6, a7, a8], _ => exact ⟨a0, a1, a2, a3, a4, a5, a6, a7, a8, rfl⟩
  have f0 : DataW.trod enc Tryz.prog W 0 (fun _ => true) true m 3 ((([c0, c1, c2, c3, c4, c5, c6, c7, c8, c9, c10, c11, c12, c13, c14, c15] : List Value).drop 0).take (Tryz.prog.cellsOf 3)) = some x0 := hg 0 _ rfl
  rw [show Tryz.prog.cellsOf 3 = 1 from (by kernel_rfl)] at f0
  change DataW.trod enc Tryz.prog W 0 (fun _ => true) true m 3 [c0] = some x0 at f0
  obtain ⟨v0, e0, -, w0⟩ := DataW.trod_int Tryz.underlying3 f0
  have g0 := List.singleton_inj.1 e0
  have f1 : DataW.trod enc Tryz.prog W 0 (fun _ => true) true m 3 ((([c0, c1, c2, c3, c4, c5, c6, c7, c8, c9, c10, c11, c12, c13, c14, c15] : List Value).drop 1).take (Tryz.prog.cellsOf 3)) = some x1 := hg 1 _ rfl
  rw [show Tryz.prog.cellsOf 3 = 1 from (by kernel_rfl)] at f1
  change DataW.trod enc Tryz.prog W 0 (fun _ => true) true m 3 [c1] = some x1 at f1
  obtain ⟨v1, e1, -, w1⟩ := DataW.trod_int Tryz.underlying3 f1
  have g1 := List.singleton_inj.1 e1
  have f2 : DataW.trod enc Tryz.prog W 0 (fun _ => true) true m 5 ((([c0, c1, c2, c3, c4, c5, c6, c7, c8, c9, c10, c11, c12, c13, c14, c15] : List Value).drop 2).take (Tryz.prog.cellsOf 5)) = some x2 := hg 2 _ rfl
  rw [show Tryz.prog.cellsOf 5 = 1 from (by kernel_rfl)] at f2
  change DataW.trod enc Tryz.prog W 0 (fun _ => true) true m 5 [c2] = some x2 at f2
  obtain ⟨v2, e2, -, w2⟩ := DataW.trod_int Tryz.underlying5 f2
  have g2 := List.singleton_inj.1 e2
  have f3 : DataW.trod enc Tryz.prog W 0 (fun _ => true) true m 3 ((([c0, c1, c2, c3, c4, c5, c6, c7, c8, c9, c10, c11, c12, c13, c14, c15] : List Value).drop 3).take (Tryz.prog.cellsOf 3)) = some x3 := hg 3 _ rfl
  rw [show Tryz.prog.cellsOf 3 = 1 from (by kernel_rfl)] at f3
  change DataW.trod enc Tryz.prog W 0 (fun _ => true) true m 3 [c3] = some x3 at f3
  obtain ⟨v3, e3, -, w3⟩ := DataW.trod_int Tryz.underlying3 f3
  have g3 := List.singleton_inj.1 e3
  have f4 : DataW.trod enc Tryz.prog W 0 (fun _ => true) true m 42 ((([c0, c1, c2, c3, c4, c5, c6, c7, c8, c9, c10, c11, c12, c13, c14, c15] : List Value).drop 4).take (Tryz.prog.cellsOf 42)) = some x4 := hg 4 _ rfl
  rw [show Tryz.prog.cellsOf 42 = 3 from (by kernel_rfl)] at f4
  change DataW.trod enc Tryz.prog W 0 (fun _ => true) true m 42 [c4, c5, c6] = some x4 at f4
  have f5 : DataW.trod enc Tryz.prog W 0 (fun _ => true) true m 43 ((([c0, c1, c2, c3, c4, c5, c6, c7, c8, c9, c10, c11, c12, c13, c14, c15] : List Value).drop 7).take (Tryz.prog.cellsOf 43)) = some x5 := hg 5 _ rfl
  rw [show Tryz.prog.cellsOf 43 = 6 from (by kernel_rfl)] at f5
  change DataW.trod enc Tryz.prog W 0 (fun _ => true) true m 43 [c7, c8, c9, c10, c11, c12] = some x5 at f5
  have f6 : DataW.trod enc Tryz.prog W 0 (fun _ => true) true m 3 ((([c0, c1, c2, c3, c4, c5, c6, c7, c8, c9, c10, c11, c12, c13, c14, c15] : List Value).drop 13).take (Tryz.prog.cellsOf 3)) = some x6 := hg 6 _ rfl
  rw [show Tryz.prog.cellsOf 3 = 1 from (by kernel_rfl)] at f6
  change DataW.trod enc Tryz.prog W 0 (fun _ => true) true m 3 [c13] = some x6 at f6
  obtain ⟨v6, e6, -, w6⟩ := DataW.trod_int Tryz.underlying3 f6
  have g6 := List.singleton_inj.1 e6
  have f7 : DataW.trod enc Tryz.prog W 0 (fun _ => true) true m 3 ((([c0, c1, c2, c3, c4, c5, c6, c7, c8, c9, c10, c11, c12, c13, c14, c15] : List Value).drop 14).take (Tryz.prog.cellsOf 3)) = some x7 := hg 7 _ rfl
  rw [show Tryz.prog.cellsOf 3 = 1 from (by kernel_rfl)] at f7
  change DataW.trod enc Tryz.prog W 0 (fun _ => true) true m 3 [c14] = some x7 at f7
  obtain ⟨v7, e7, -, w7⟩ := DataW.trod_int Tryz.underlying3 f7
  have g7 := List.singleton_inj.1 e7
  have f8 : DataW.trod enc Tryz.prog W 0 (fun _ => true) true m 3 ((([c0, c1, c2, c3, c4, c5, c6, c7, c8, c9, c10, c11, c12, c13, c14, c15] : List Value).drop 15).take (Tryz.prog.cellsOf 3)) = some x8 := hg 8 _ rfl
  rw [show Tryz.prog.cellsOf 3 = 1 from (by kernel_rfl)] at f8
  change DataW.trod enc Tryz.prog W 0 (fun _ => true) true m 3 [c15] = some x8 at f8
  obtain ⟨v8, e8, -, w8⟩ := DataW.trod_int Tryz.underlying3 f8
  have g8 := List.singleton_inj.1 e8
  obtain ⟨t1, t2, t3, t4, t5, t6, ⟨rfl, rfl, rfl, rfl, rfl, rfl⟩, u1, u2, u3, u4, u5, u6⟩ := arr6_of Tryz.underlying43 Tryz.underlying3 (by kernel_rfl) f5
  obtain ⟨xs, m', _, _, hdl, hdx, hdg⟩ := DataW.trod_struct Tryz.underlying42 f4
  obtain ⟨y0, y1, y2, rfl⟩ : ∃ x0 x1 x2, xs = [x0, x1, x2] := by
    match xs, (show xs.length = 3 from hdx) with
    | [a0, a1, a2], _ => exact ⟨a0, a1, a2, rfl⟩
  have p0 : DataW.trod enc Tryz.prog W 0 (fun _ => true) true m' 5 ((([c4, c5, c6] : List Value).drop 0).take (Tryz.prog.cellsOf 5)) = some y0 := hdg 0 _ rfl
  rw [show Tryz.prog.cellsOf 5 = 1 from (by kernel_rfl)] at p0
  change DataW.trod enc Tryz.prog W 0 (fun _ => true) true m' 5 [c4] = some y0 at p0
  have p1 : DataW.trod enc Tryz.prog W 0 (fun _ => true) true m' 3 ((([c4, c5, c6] : List Value).drop 1).take (Tryz.prog.cellsOf 3)) = some y1 := hdg 1 _ rfl
  rw [show Tryz.prog.cellsOf 3 = 1 from (by kernel_rfl)] at p1
  change DataW.trod enc Tryz.prog W 0 (fun _ => true) true m' 3 [c5] = some y1 at p1
  have p2 : DataW.trod enc Tryz.prog W 0 (fun _ => true) true m' 40 ((([c4, c5, c6] : List Value).drop 2).take (Tryz.prog.cellsOf 40)) = some y2 := hdg 2 _ rfl
  rw [show Tryz.prog.cellsOf 40 = 1 from (by kernel_rfl)] at p2
  change DataW.trod enc Tryz.prog W 0 (fun _ => true) true m' 40 [c6] = some y2 at p2
  obtain ⟨k, ek, -, wk⟩ := DataW.trod_int Tryz.underlying5 p0
  obtain ⟨n, en, -, wn⟩ := DataW.trod_int Tryz.underlying3 p1
  obtain ⟨a, zs, cap, ez, hrd, hwf, hm⟩ := open_ints_cs Tryz.underlying40 Tryz.underlying26 (by kernel_rfl) p2
  have gk := List.singleton_inj.1 ek
  have gn := List.singleton_inj.1 en
  have gz := List.singleton_inj.1 ez
  subst g0 g1 g2 g3 g6 g7 g8 gk gn gz
  exact ⟨⟨v0, v1, v2, v3, k, n, zs, a, cap, t1, t2, t3, t4, t5, t6, v6, v7, v8⟩, rfl, ⟨w0, w1, w2, w3, wk, wn, hrd, hwf, u1, u2, u3, u4, u5, u6, w6, w7, w8, hm⟩⟩
end Go.Proofs.YtmafdjhjmnghcaaGreat
