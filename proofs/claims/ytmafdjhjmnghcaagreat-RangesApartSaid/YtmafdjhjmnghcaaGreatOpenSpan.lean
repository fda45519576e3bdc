/- Structs of numbers and bools that come in as arguments, written by a program. -/
import Derived.Test.YtmafdjhjmnghcaaGreatProg
import Derived.Test.YtmafdjhjmnghcaaGreatOpenBase
import Derived.Test.YtmafdjhjmnghcaaGreatRngQS
namespace Go.Proofs.YtmafdjhjmnghcaaGreat
open Go.RowKit Go.Lf Go.ChangeShapes Go.WideShapes Go.ChangeAt
set_option linter.unusedVariables false
set_option maxRecDepth 100000

theorem span_of {H : Type} {enc : TypeId × Value → H} {W : World} {n : Nat} {cs : List Value} {x : DataW H × List MemPlace} (h : DataW.trod enc Tryz.prog W 0 (fun _ => true) true n 28 cs = some x) : ∃ y : SpanV, cs = y.cells ∧ y.wf := by
  obtain ⟨xs, m, _, _, hl, hxl, hf⟩ := DataW.trod_struct Tryz.underlying28 h
  have hl' : cs.length = 2 := hl.trans (by kernel_rfl)
  obtain ⟨x0, x1, rfl⟩ : ∃ x0 x1, xs = [x0, x1] := by
    match xs, (show xs.length = 2 from hxl) with
    | [a0, a1], _ => exact ⟨a0, a1, rfl⟩
  have f0 : DataW.trod enc Tryz.prog W 0 (fun _ => true) true m 26 ((cs.drop 0).take (Tryz.prog.cellsOf 26)) = some x0 := hf 0 _ rfl
  rw [show Tryz.prog.cellsOf 26 = 1 from (by kernel_rfl)] at f0
  obtain ⟨v0, e0, -, w0⟩ := DataW.trod_int Tryz.underlying26 f0
  have f1 : DataW.trod enc Tryz.prog W 0 (fun _ => true) true m 26 ((cs.drop 1).take (Tryz.prog.cellsOf 26)) = some x1 := hf 1 _ rfl
  rw [show Tryz.prog.cellsOf 26 = 1 from (by kernel_rfl)] at f1
  obtain ⟨v1, e1, -, w1⟩ := DataW.trod_int Tryz.underlying26 f1
  refine ⟨⟨v0, v1⟩, ?_, w0, w1⟩
  have g0 := one_field e0
  have g1 := one_field e1
  match cs, hl' with
  | [c0, c1], _ => simp at g0 g1; subst g0 g1; rfl

theorem open_Spans {H : Type} {enc : TypeId × Value → H} {W : World} {v : Value} {d : DataW H} {p : List MemPlace} {base : Nat}
    (hv : Value.okWide Tryz.prog W .any base 35 v) (h : DataW.Trod enc Tryz.prog W 0 (fun _ => true) true 35 v d p) :
    ∃ zs : List SpanV, Rd W 2 v zs.length (spanCells zs) ∧ (∀ y ∈ zs, SpanV.wf y) ∧ zs.length ≤ maxLen :=
  open_flat 2 Tryz.underlying35 (by kernel_rfl) (by decide) (fun _ => rfl) (fun _ _ _ h => span_of h) hv h

theorem open_Span {H : Type} {enc : TypeId × Value → H} {W : World} {v : Value} {d : DataW H} {p : List MemPlace} {base : Nat}
    (hv : Value.okWide Tryz.prog W .any base 28 v) (h : DataW.Trod enc Tryz.prog W 0 (fun _ => true) true 28 v d p) :
    ∃ z : SpanV, v = .agg z.cells.toArray ∧ z.wf := by
  obtain ⟨cs, rfl, hsz⟩ := okWide_struct Tryz.underlying28 hv
  obtain ⟨fuel, hf⟩ := h
  obtain ⟨y, hy, hw⟩ := span_of hf
  refine ⟨y, ?_, hw⟩
  rw [← hy]
  simp [Value.cells]

end Go.Proofs.YtmafdjhjmnghcaaGreat
