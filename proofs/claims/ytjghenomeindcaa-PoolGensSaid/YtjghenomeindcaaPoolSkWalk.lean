/- PoolStack and PoolPartition: the walks. -/
import Derived.Test.YtjghenomeindcaaPoolSi
set_option linter.unusedVariables false
set_option linter.unusedSimpArgs false
namespace Go.Proofs.Ytjghenomeindcaa
open Go.RowKit Go.Lf
section
variable {w w' : World}
theorem u8_wfa {z : PAct} (h : z.wf) : z.wf := h
/-- Six numbers that few lets pass. -/
theorem few_six {y1 y2 y3 y4 y5 y6 : Int} (h : FewP [y1, y2, y3, y4, y5, y6]) : ∃ t1 t2 t3 t4 t5 t6 : Nat, y1 = t1 ∧ y2 = t2 ∧ y3 = t3 ∧ y4 = t4 ∧ y5 = t5 ∧ y6 = t6 ∧ [t1, t2, t3, t4, t5, t6].sum ≤ 40 := by
  obtain ⟨ts, he, hs⟩ := h.nats
  match ts, he with
  | [a, b, c, d, e, f], he =>
    simp only [List.map_cons, List.map_nil, List.cons.injEq, and_true] at he
    exact ⟨a, b, c, d, e, f, he.1, he.2.1, he.2.2.1, he.2.2.2.1, he.2.2.2.2.1, he.2.2.2.2.2, hs⟩
theorem box6 {W : World} {cb : Nat} {x0 x1 x2 x3 x4 x5 : Value} {t : TypeId} (h : W.heap[cb]? = some (.cells #[x0, x1, x2, x3, x4, x5] t (0, 0))) : W.cell? ⟨cb, 0, none⟩ = some x0 ∧ W.cell? ⟨cb, 1, none⟩ = some x1 ∧ W.cell? ⟨cb, 2, none⟩ = some x2 ∧ W.cell? ⟨cb, 3, none⟩ = some x3 ∧ W.cell? ⟨cb, 4, none⟩ = some x4 ∧ W.cell? ⟨cb, 5, none⟩ = some x5 := by
  refine ⟨?_, ?_, ?_, ?_, ?_, ?_⟩ <;> (rw [cell_of h]; rfl)
set_option maxRecDepth 100000 in
set_option maxHeartbeats 4000000 in
theorem walk_pstack (w : World) (zs : List Int) (hz : zs.length = 6) (hwf : ∀ z ∈ zs, (Lit.int .i64 z).wf = true) (v : Value) (l : List PAct) (hrd : Rd w 3 v l.length (pactCells l)) (hl : ∀ x ∈ l, x.wf) (hm : l.length ≤ maxLen) :
    Calls Try.prog 3 #[.agg (zs.map (Value.int .i64)).toArray, v] w fun e w' => e = .returned (.bool true) ∧ Keep Nil w w' := by
  unfold maxLen at hm
  obtain ⟨a, cp, rfl, -⟩ : ∃ a c, v = .slice a l.length c ∧ True := by obtain ⟨a, c, h, -⟩ := hrd; exact ⟨a, c, h, trivial⟩
  obtain ⟨y1, y2, y3, y4, y5, y6, rfl⟩ : ∃ y1 y2 y3 y4 y5 y6, zs = [y1, y2, y3, y4, y5, y6] := by
    match zs, hz with
    | [a, b, c, d, e, f], _ => exact ⟨a, b, c, d, e, f, rfl⟩
  have HF := hid (fun W => show Calls Try.prog 7 #[.agg #[.int .i64 y1, .int .i64 y2, .int .i64 y3, .int .i64 y4, .int .i64 y5, .int .i64 y6]] W _ from few_ok W [y1, y2, y3, y4, y5, y6] rfl hwf)
  have HRD := hid hrd
  have HL := hid hl
  have HBX := hid (heap_alloc_new w (.cells #[.int .i64 y1, .int .i64 y2, .int .i64 y3, .int .i64 y4, .int .i64 y5, .int .i64 y6] 22 (0, 0)))
  clear hz hwf hrd hl
  simp only [List.map_cons, List.map_nil]
  go_enter Try.func3, Try.ntmps3
  go_wp2_with fail
  refine (HF.out _).mono ?_
  rintro e w1 ⟨⟨b, rfl, hb⟩, hk1⟩
  have HK1 := hid (((Keep.refl Nil w).alloc _).trans hk1 (fun _ _ h => h))
  obtain ⟨x1, x2, x3, x4, x5, x6⟩ := box6 (hk1.at HBX.out (fun h => h))
  have HB := hid hb
  clear hk1 hb HF HBX
  cases b with
  | false =>
    go_wp2
    go_ret
    exact ⟨rfl, HK1.out⟩
  | true =>
    by_cases hlen : l.length > 400
    · have d0 : decide ((l.length : Int) > 400) = true := decide_eq_true (by omega)
      go_wp2
      go_ret
      exact ⟨rfl, HK1.out⟩
    · have d0 : decide ((l.length : Int) > 400) = false := decide_eq_false (by omega)
      obtain ⟨t1, t2, t3, t4, t5, t6, rfl, rfl, rfl, rfl, rfl, rfl, hs⟩ := few_six (HB.out rfl)
      have hok := pcfg_ok (ts := [t1, t2, t3, t4, t5, t6]) rfl hs
      have hnT : (pcfg [t1, t2, t3, t4, t5, t6]).nT ≤ 40 := by rw [pcfg_nT]; exact hs
      have HBG := hid (begin_ok w1 t1 t2 t3 t4 t5 t6 hs)
      generalize pcfg [t1, t2, t3, t4, t5, t6] = c at hok hnT HBG
      have HOK := hid hok
      have HLE := hid (show l.length ≤ 400 from by omega)
      clear HB hs hok hlen
      go_wp2_with fail
      refine HBG.out.mono ?_
      rintro e w2 ⟨rb, pb, L, own, f, rfl, h⟩
      have HR := hid (h.from HK1.out)
      have HG := hid (PGood.init HOK.out)
      clear h HBG
      go_wp2_with fail
      refine (pplay_ok HR.out HG.out HOK.out a cp l HRD.out (fun _ _ h => h) HL.out (by have := HLE.out; omega) (by decide) false (fun h => by cases h)).mono ?_
      rintro e w3 ⟨rfl, own3, f3, h3⟩
      have HG3 := hid (HG.out.acts HOK.out l)
      have HK3 := hid h3.kp
      have HP := hid (parts_ok h3 HG3.out.inv HOK.out (by have := HG3.out.log; have := HLE.out; omega) (by omega))
      clear h3 HR HG
      go_wp2_with fail
      refine HP.out.mono ?_
      rintro e w4 ⟨rfl, hk4⟩
      have HK4 := hid (HK3.out.trans hk4 (fun _ _ h => h))
      clear hk4 HP
      go_wp2_with fail
      refine (simple_ok _).mono ?_
      rintro e w5 ⟨rfl, hk5⟩
      have HK5 := hid (HK4.out.trans hk5 (fun _ _ h => h))
      clear hk5
      go_wp2
      go_ret
      exact ⟨rfl, HK5.out⟩
end
end Go.Proofs.Ytjghenomeindcaa
