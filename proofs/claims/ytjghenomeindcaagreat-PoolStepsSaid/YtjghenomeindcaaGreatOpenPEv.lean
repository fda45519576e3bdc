/- Structs of numbers and bools that come in as arguments, written by a program. -/
import Derived.Test.YtjghenomeindcaaGreatProg
import Derived.Test.YtjghenomeindcaaGreatOpenBase
import Derived.Test.YtjghenomeindcaaGreatPoolMtWalk
import Derived.Test.YtjghenomeindcaaGreatOpenArr
namespace Go.Proofs.YtjghenomeindcaaGreat
open Go.RowKit Go.Lf Go.ChangeShapes Go.WideShapes Go.ChangeAt
set_option linter.unusedVariables false
set_option maxRecDepth 100000

theorem event_of {H : Type} {enc : TypeId × Value → H} {W : World} {n : Nat} {cs : List Value} {x : DataW H × List MemPlace} (h : DataW.trod enc Tryz.prog W 0 (fun _ => true) true n 84 cs = some x) : ∃ y : PEvV, cs = y.cells ∧ y.wf := by
  obtain ⟨xs, m, _, _, hl, hxl, hf⟩ := DataW.trod_struct Tryz.underlying84 h
  have hl' : cs.length = 6 := hl.trans (by kernel_rfl)
  obtain ⟨x0, x1, x2, x3, x4, x5, rfl⟩ : ∃ x0 x1 x2 x3 x4 x5, xs = [x0, x1, x2, x3, x4, x5] := by
    match xs, (show xs.length = 6 from hxl) with
    | [a0, a1, a2, a3, a4, a5], _ => exact ⟨a0, a1, a2, a3, a4, a5, rfl⟩
  have f0 : DataW.trod enc Tryz.prog W 0 (fun _ => true) true m 5 ((cs.drop 0).take (Tryz.prog.cellsOf 5)) = some x0 := hf 0 _ rfl
  rw [show Tryz.prog.cellsOf 5 = 1 from (by kernel_rfl)] at f0
  obtain ⟨v0, e0, -, w0⟩ := DataW.trod_int Tryz.underlying5 f0
  have f1 : DataW.trod enc Tryz.prog W 0 (fun _ => true) true m 3 ((cs.drop 1).take (Tryz.prog.cellsOf 3)) = some x1 := hf 1 _ rfl
  rw [show Tryz.prog.cellsOf 3 = 1 from (by kernel_rfl)] at f1
  obtain ⟨v1, e1, -, w1⟩ := DataW.trod_int Tryz.underlying3 f1
  have f2 : DataW.trod enc Tryz.prog W 0 (fun _ => true) true m 3 ((cs.drop 2).take (Tryz.prog.cellsOf 3)) = some x2 := hf 2 _ rfl
  rw [show Tryz.prog.cellsOf 3 = 1 from (by kernel_rfl)] at f2
  obtain ⟨v2, e2, -, w2⟩ := DataW.trod_int Tryz.underlying3 f2
  have f3 : DataW.trod enc Tryz.prog W 0 (fun _ => true) true m 3 ((cs.drop 3).take (Tryz.prog.cellsOf 3)) = some x3 := hf 3 _ rfl
  rw [show Tryz.prog.cellsOf 3 = 1 from (by kernel_rfl)] at f3
  obtain ⟨v3, e3, -, w3⟩ := DataW.trod_int Tryz.underlying3 f3
  have f4 : DataW.trod enc Tryz.prog W 0 (fun _ => true) true m 3 ((cs.drop 4).take (Tryz.prog.cellsOf 3)) = some x4 := hf 4 _ rfl
  rw [show Tryz.prog.cellsOf 3 = 1 from (by kernel_rfl)] at f4
  obtain ⟨v4, e4, -, w4⟩ := DataW.trod_int Tryz.underlying3 f4
  have f5 : DataW.trod enc Tryz.prog W 0 (fun _ => true) true m 3 ((cs.drop 5).take (Tryz.prog.cellsOf 3)) = some x5 := hf 5 _ rfl
  rw [show Tryz.prog.cellsOf 3 = 1 from (by kernel_rfl)] at f5
  obtain ⟨v5, e5, -, w5⟩ := DataW.trod_int Tryz.underlying3 f5
  refine ⟨⟨v0, v1, v2, v3, v4, v5⟩, ?_, w0, w1, w2, w3, w4, w5⟩
  have g0 := one_field e0
  have g1 := one_field e1
  have g2 := one_field e2
  have g3 := one_field e3
  have g4 := one_field e4
  have g5 := one_field e5
  match cs, hl' with
  | [c0, c1, c2, c3, c4, c5], _ => simp at g0 g1 g2 g3 g4 g5; subst g0 g1 g2 g3 g4 g5; rfl

theorem open_Events {H : Type} {enc : TypeId × Value → H} {W : World} {v : Value} {d : DataW H} {p : List MemPlace} {base : Nat}
    (hv : Value.okWide Tryz.prog W .any base 62 v) (h : DataW.Trod enc Tryz.prog W 0 (fun _ => true) true 62 v d p) :
    ∃ zs : List PEvV, Rd W 6 v zs.length (pevCells zs) ∧ (∀ y ∈ zs, PEvV.wf y) ∧ zs.length ≤ maxLen :=
  open_flat 6 Tryz.underlying62 (by kernel_rfl) (by decide) (fun _ => rfl) (fun _ _ _ h => event_of h) hv h

theorem open_Event {H : Type} {enc : TypeId × Value → H} {W : World} {v : Value} {d : DataW H} {p : List MemPlace} {base : Nat}
    (hv : Value.okWide Tryz.prog W .any base 84 v) (h : DataW.Trod enc Tryz.prog W 0 (fun _ => true) true 84 v d p) :
    ∃ z : PEvV, v = .agg z.cells.toArray ∧ z.wf := by
  obtain ⟨cs, rfl, hsz⟩ := okWide_struct Tryz.underlying84 hv
  obtain ⟨fuel, hf⟩ := h
  obtain ⟨y, hy, hw⟩ := event_of hf
  refine ⟨y, ?_, hw⟩
  rw [← hy]
  simp [Value.cells]

end Go.Proofs.YtjghenomeindcaaGreat
