/- Structs of numbers and bools that come in as arguments, written by a program. -/
import Derived.Test.YtjghenomeindcaaProg
import Derived.Test.YtjghenomeindcaaOpenBase
import Derived.Test.YtjghenomeindcaaPoolPl
import Derived.Test.YtjghenomeindcaaOpenArr
import Derived.Test.YtjghenomeindcaaOpenCap
namespace Go.Proofs.Ytjghenomeindcaa
open Go.RowKit Go.Lf Go.ChangeShapes Go.WideShapes Go.ChangeAt
set_option linter.unusedVariables false
set_option maxRecDepth 100000

theorem act_of {H : Type} {enc : TypeId × Value → H} {W : World} {n : Nat} {cs : List Value} {x : DataW H × List MemPlace} (h : DataW.trod enc Try.prog W 0 (fun _ => true) true n 69 cs = some x) : ∃ y : Go.Lf.PAct, cs = y.cells ∧ y.wf := by
  obtain ⟨xs, m, _, _, hl, hxl, hf⟩ := DataW.trod_struct Try.underlying69 h
  have hl' : cs.length = 3 := hl.trans (by kernel_rfl)
  obtain ⟨x0, x1, x2, rfl⟩ : ∃ x0 x1 x2, xs = [x0, x1, x2] := by
    match xs, (show xs.length = 3 from hxl) with
    | [a0, a1, a2], _ => exact ⟨a0, a1, a2, rfl⟩
  have f0 : DataW.trod enc Try.prog W 0 (fun _ => true) true m 5 ((cs.drop 0).take (Try.prog.cellsOf 5)) = some x0 := hf 0 _ rfl
  rw [show Try.prog.cellsOf 5 = 1 from (by kernel_rfl)] at f0
  obtain ⟨v0, e0, -, w0⟩ := DataW.trod_int Try.underlying5 f0
  have f1 : DataW.trod enc Try.prog W 0 (fun _ => true) true m 5 ((cs.drop 1).take (Try.prog.cellsOf 5)) = some x1 := hf 1 _ rfl
  rw [show Try.prog.cellsOf 5 = 1 from (by kernel_rfl)] at f1
  obtain ⟨v1, e1, -, w1⟩ := DataW.trod_int Try.underlying5 f1
  have f2 : DataW.trod enc Try.prog W 0 (fun _ => true) true m 4 ((cs.drop 2).take (Try.prog.cellsOf 4)) = some x2 := hf 2 _ rfl
  rw [show Try.prog.cellsOf 4 = 1 from (by kernel_rfl)] at f2
  obtain ⟨v2, e2, -⟩ := DataW.trod_bool Try.underlying4 f2
  refine ⟨⟨v0, v1, v2⟩, ?_, w0, w1⟩
  have g0 := one_field e0
  have g1 := one_field e1
  have g2 := one_field e2
  match cs, hl' with
  | [c0, c1, c2], _ => simp at g0 g1 g2; subst g0 g1 g2; rfl

theorem open_Acts {H : Type} {enc : TypeId × Value → H} {W : World} {v : Value} {d : DataW H} {p : List MemPlace} {base : Nat}
    (hv : Value.okWide Try.prog W .any base 23 v) (h : DataW.Trod enc Try.prog W 0 (fun _ => true) true 23 v d p) :
    ∃ zs : List Go.Lf.PAct, Rd W 3 v zs.length (pactCells zs) ∧ (∀ y ∈ zs, Go.Lf.PAct.wf y) ∧ (zs.length ≤ maxLen ∧ CapOk v) :=
  by
  obtain ⟨z, h1, h2, h3⟩ := open_flat 3 Try.underlying23 (by kernel_rfl) (by decide) (fun _ => rfl) (fun _ _ _ h => act_of h) hv h
  exact ⟨z, h1, h2, h3, cap_of Try.underlying23 hv h⟩

theorem open_Act {H : Type} {enc : TypeId × Value → H} {W : World} {v : Value} {d : DataW H} {p : List MemPlace} {base : Nat}
    (hv : Value.okWide Try.prog W .any base 69 v) (h : DataW.Trod enc Try.prog W 0 (fun _ => true) true 69 v d p) :
    ∃ z : Go.Lf.PAct, v = .agg z.cells.toArray ∧ z.wf := by
  obtain ⟨cs, rfl, hsz⟩ := okWide_struct Try.underlying69 hv
  obtain ⟨fuel, hf⟩ := h
  obtain ⟨y, hy, hw⟩ := act_of hf
  refine ⟨y, ?_, hw⟩
  rw [← hy]
  simp [Value.cells]

end Go.Proofs.Ytjghenomeindcaa
