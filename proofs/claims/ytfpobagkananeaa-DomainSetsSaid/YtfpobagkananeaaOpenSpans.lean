/- Structs of numbers and bools that come in as arguments, written by a program. -/
import Derived.Test.YtfpobagkananeaaProg
import Derived.Test.YtfpobagkananeaaOpenBase
namespace Go.Lf
open Go.RowKit

/-- api.Span as data. -/
structure SpanV where
  lo : Int
  hi : Int
def SpanV.cells (x : SpanV) : List Value := [.int .u64 x.lo, .int .u64 x.hi]
def SpanV.wf (x : SpanV) : Prop := (Lit.int .u64 x.lo).wf = true ∧ (Lit.int .u64 x.hi).wf = true
def spanCells (l : List SpanV) : List Value := l.flatMap SpanV.cells
/-- leapfroglaw03.Parts as data. -/
structure PartsV where
  value : Int
  buckets : Int
def PartsV.cells (x : PartsV) : List Value := [.int .i64 x.value, .int .i64 x.buckets]
def PartsV.wf (x : PartsV) : Prop := (Lit.int .i64 x.value).wf = true ∧ (Lit.int .i64 x.buckets).wf = true
def partsCells (l : List PartsV) : List Value := l.flatMap PartsV.cells
end Go.Lf
namespace Go.Proofs.Ytfpobagkananeaa
open Go.RowKit Go.Lf Go.ChangeShapes Go.WideShapes Go.ChangeAt
set_option linter.unusedVariables false
set_option maxRecDepth 100000

theorem span_of {H : Type} {enc : TypeId × Value → H} {W : World} {n : Nat} {cs : List Value} {x : DataW H × List MemPlace} (h : DataW.trod enc Try.prog W 0 (fun _ => true) true n 44 cs = some x) : ∃ y : SpanV, cs = y.cells ∧ y.wf := by
  obtain ⟨xs, m, _, _, hl, hxl, hf⟩ := DataW.trod_struct Try.underlying44 h
  have hl' : cs.length = 2 := hl.trans (by kernel_rfl)
  obtain ⟨x0, x1, rfl⟩ : ∃ x0 x1, xs = [x0, x1] := by
    match xs, (show xs.length = 2 from hxl) with
    | [a0, a1], _ => exact ⟨a0, a1, rfl⟩
  have f0 : DataW.trod enc Try.prog W 0 (fun _ => true) true m 22 ((cs.drop 0).take (Try.prog.cellsOf 22)) = some x0 := hf 0 _ rfl
  rw [show Try.prog.cellsOf 22 = 1 from (by kernel_rfl)] at f0
  obtain ⟨v0, e0, -, w0⟩ := DataW.trod_int Try.underlying22 f0
  have f1 : DataW.trod enc Try.prog W 0 (fun _ => true) true m 22 ((cs.drop 1).take (Try.prog.cellsOf 22)) = some x1 := hf 1 _ rfl
  rw [show Try.prog.cellsOf 22 = 1 from (by kernel_rfl)] at f1
  obtain ⟨v1, e1, -, w1⟩ := DataW.trod_int Try.underlying22 f1
  refine ⟨⟨v0, v1⟩, ?_, w0, w1⟩
  have g0 := one_field e0
  have g1 := one_field e1
  match cs, hl' with
  | [c0, c1], _ => simp at g0 g1; subst g0 g1; rfl

theorem open_Span {H : Type} {enc : TypeId × Value → H} {W : World} {v : Value} {d : DataW H} {p : List MemPlace} {base : Nat}
    (hv : Value.okWide Try.prog W .any base 44 v) (h : DataW.Trod enc Try.prog W 0 (fun _ => true) true 44 v d p) :
    ∃ z : SpanV, v = .agg z.cells.toArray ∧ z.wf := by
  obtain ⟨cs, rfl, hsz⟩ := okWide_struct Try.underlying44 hv
  obtain ⟨fuel, hf⟩ := h
  obtain ⟨y, hy, hw⟩ := span_of hf
  refine ⟨y, ?_, hw⟩
  rw [← hy]
  simp [Value.cells]

theorem parts_of {H : Type} {enc : TypeId × Value → H} {W : World} {n : Nat} {cs : List Value} {x : DataW H × List MemPlace} (h : DataW.trod enc Try.prog W 0 (fun _ => true) true n 55 cs = some x) : ∃ y : PartsV, cs = y.cells ∧ y.wf := by
  obtain ⟨xs, m, _, _, hl, hxl, hf⟩ := DataW.trod_struct Try.underlying55 h
  have hl' : cs.length = 2 := hl.trans (by kernel_rfl)
  obtain ⟨x0, x1, rfl⟩ : ∃ x0 x1, xs = [x0, x1] := by
    match xs, (show xs.length = 2 from hxl) with
    | [a0, a1], _ => exact ⟨a0, a1, rfl⟩
  have f0 : DataW.trod enc Try.prog W 0 (fun _ => true) true m 3 ((cs.drop 0).take (Try.prog.cellsOf 3)) = some x0 := hf 0 _ rfl
  rw [show Try.prog.cellsOf 3 = 1 from (by kernel_rfl)] at f0
  obtain ⟨v0, e0, -, w0⟩ := DataW.trod_int Try.underlying3 f0
  have f1 : DataW.trod enc Try.prog W 0 (fun _ => true) true m 3 ((cs.drop 1).take (Try.prog.cellsOf 3)) = some x1 := hf 1 _ rfl
  rw [show Try.prog.cellsOf 3 = 1 from (by kernel_rfl)] at f1
  obtain ⟨v1, e1, -, w1⟩ := DataW.trod_int Try.underlying3 f1
  refine ⟨⟨v0, v1⟩, ?_, w0, w1⟩
  have g0 := one_field e0
  have g1 := one_field e1
  match cs, hl' with
  | [c0, c1], _ => simp at g0 g1; subst g0 g1; rfl

theorem open_Parts {H : Type} {enc : TypeId × Value → H} {W : World} {v : Value} {d : DataW H} {p : List MemPlace} {base : Nat}
    (hv : Value.okWide Try.prog W .any base 55 v) (h : DataW.Trod enc Try.prog W 0 (fun _ => true) true 55 v d p) :
    ∃ z : PartsV, v = .agg z.cells.toArray ∧ z.wf := by
  obtain ⟨cs, rfl, hsz⟩ := okWide_struct Try.underlying55 hv
  obtain ⟨fuel, hf⟩ := h
  obtain ⟨y, hy, hw⟩ := parts_of hf
  refine ⟨y, ?_, hw⟩
  rw [← hy]
  simp [Value.cells]

end Go.Proofs.Ytfpobagkananeaa
