/- PoolPartition: the walk. -/
import Derived.Test.YtjghenomeindcaaPoolSkWalk
set_option linter.unusedVariables false
set_option linter.unusedSimpArgs false
namespace Go.Proofs.Ytjghenomeindcaa
open Go.RowKit Go.Lf
section
variable {w w' : World}
set_option maxRecDepth 100000 in
set_option maxHeartbeats 4000000 in
theorem walk_ppart (w : World) (zs : List Int) (hz : zs.length = 6) (hwf : ∀ z ∈ zs, (Lit.int .i64 z).wf = true) (v : Value) (l : List PAct) (hrd : Rd w 3 v l.length (pactCells l)) (hl : ∀ x ∈ l, x.wf) (hm : l.length ≤ maxLen) :
    Calls Try.prog 4 #[.agg (zs.map (Value.int .i64)).toArray, v] w fun e w' => e = .returned (.bool true) ∧ Keep Nil w w' := by
  unfold maxLen at hm
  obtain ⟨a, cp, rfl, -⟩ : ∃ a c, v = .slice a l.length c ∧ True := by obtain ⟨a, c, h, -⟩ := hrd; exact ⟨a, c, h, trivial⟩
  obtain ⟨y1, y2, y3, y4, y5, y6, rfl⟩ : ∃ y1 y2 y3 y4 y5 y6, zs = [y1, y2, y3, y4, y5, y6] := by
    match zs, hz with
    | [a, b, c, d, e, f], _ => exact ⟨a, b, c, d, e, f, rfl⟩
  have HF := hid (fun W => show Calls Try.prog 7 #[.agg #[.int .i64 y1, .int .i64 y2, .int .i64 y3, .int .i64 y4, .int .i64 y5, .int .i64 y6]] W _ from few_ok W [y1, y2, y3, y4, y5, y6] rfl hwf)
  have HRD := hid hrd
  have HL := hid hl
  have HBX := hid (heap_alloc_new w (.cells #[.int .i64 y1, .int .i64 y2, .int .i64 y3, .int .i64 y4, .int .i64 y5, .int .i64 y6] 22 (0, 0)))
  clear hz hwf hrd hl
  simp only [List.map_cons, List.map_nil]
  go_enter Try.func4, Try.ntmps4
  go_wp2_with fail
  refine (HF.out _).mono ?_
  rintro e w1 ⟨⟨b, rfl, hb⟩, hk1⟩
  have HK1 := hid (((Keep.refl Nil w).alloc _).trans hk1 (fun _ _ h => h))
  obtain ⟨x1, x2, x3, x4, x5, x6⟩ := box6 (hk1.at HBX.out (fun h => h))
  have HB := hid hb
  clear hk1 hb HF HBX
  cases b with
  | false =>
    go_wp2
    go_ret
    exact ⟨rfl, HK1.out⟩
  | true =>
    by_cases hlen : l.length > 200
    · have d0 : decide ((l.length : Int) > 200) = true := decide_eq_true (by omega)
      go_wp2
      go_ret
      exact ⟨rfl, HK1.out⟩
    · have d0 : decide ((l.length : Int) > 200) = false := decide_eq_false (by omega)
      obtain ⟨t1, t2, t3, t4, t5, t6, rfl, rfl, rfl, rfl, rfl, rfl, hs⟩ := few_six (HB.out rfl)
      have hok := pcfg_ok (ts := [t1, t2, t3, t4, t5, t6]) rfl hs
      have hnT : (pcfg [t1, t2, t3, t4, t5, t6]).nT ≤ 40 := by rw [pcfg_nT]; exact hs
      have HBG := hid (begin_ok w1 t1 t2 t3 t4 t5 t6 hs)
      generalize pcfg [t1, t2, t3, t4, t5, t6] = c at hok hnT HBG
      have HOK := hid hok
      have HLE := hid (show l.length ≤ 200 from by omega)
      clear HB hs hok hlen
      go_wp2_with fail
      refine HBG.out.mono ?_
      rintro e w2 ⟨rb, pb, L, own, f, rfl, h⟩
      have HR := hid (h.from HK1.out)
      have HG := hid (PGood.init HOK.out)
      clear h HBG
      go_wp2_with fail
      have HP := hid (parts_ok HR.out HG.out.inv HOK.out (by have := HG.out.log; omega) (by omega))
      refine HP.out.mono ?_
      rintro e w3 ⟨rfl, hk3⟩
      have HR3 := hid (HR.out.quiet hk3)
      clear hk3 HP HR
      go_wp2_with fail
      refine (pplay_ok HR3.out HG.out HOK.out a cp l HRD.out HL.out (by have := HLE.out; omega) (by decide) true (fun _ => by omega)).mono ?_
      rintro e w4 ⟨rfl, own4, f4, h4⟩
      have HK4 := hid h4.kp
      clear h4 HR3
      go_wp2_with fail
      refine (simple_ok _).mono ?_
      rintro e w5 ⟨rfl, hk5⟩
      have HK5 := hid (HK4.out.trans hk5 (fun _ _ h => h))
      clear hk5
      go_wp2
      go_ret
      exact ⟨rfl, HK5.out⟩
end
end Go.Proofs.Ytjghenomeindcaa
