/- Structs of numbers and bools that come in as arguments, written by a program. -/
import Derived.Test.YtihgfklajhhikaaProg
import Derived.Test.YtihgfklajhhikaaOpenBase
import Derived.Test.YtihgfklajhhikaaGatePlay
import Derived.Test.YtihgfklajhhikaaOpenCap
namespace Go.Proofs.Ytihgfklajhhikaa
open Go.RowKit Go.Lf Go.ChangeShapes Go.WideShapes Go.ChangeAt
set_option linter.unusedVariables false
set_option maxRecDepth 100000

theorem act_of {H : Type} {enc : TypeId × Value → H} {W : World} {n : Nat} {cs : List Value} {x : DataW H × List MemPlace} (h : DataW.trod enc Try.prog W 0 (fun _ => true) true n 191 cs = some x) : ∃ y : Go.Lf.Act, cs = y.cells ∧ y.wf := by
  obtain ⟨xs, m, _, _, hl, hxl, hf⟩ := DataW.trod_struct Try.underlying191 h
  have hl' : cs.length = 4 := hl.trans (by kernel_rfl)
  obtain ⟨x0, x1, x2, x3, rfl⟩ : ∃ x0 x1 x2 x3, xs = [x0, x1, x2, x3] := by
    match xs, (show xs.length = 4 from hxl) with
    | [a0, a1, a2, a3], _ => exact ⟨a0, a1, a2, a3, rfl⟩
  have f0 : DataW.trod enc Try.prog W 0 (fun _ => true) true m 5 ((cs.drop 0).take (Try.prog.cellsOf 5)) = some x0 := hf 0 _ rfl
  rw [show Try.prog.cellsOf 5 = 1 from (by kernel_rfl)] at f0
  obtain ⟨v0, e0, -, w0⟩ := DataW.trod_int Try.underlying5 f0
  have f1 : DataW.trod enc Try.prog W 0 (fun _ => true) true m 5 ((cs.drop 1).take (Try.prog.cellsOf 5)) = some x1 := hf 1 _ rfl
  rw [show Try.prog.cellsOf 5 = 1 from (by kernel_rfl)] at f1
  obtain ⟨v1, e1, -, w1⟩ := DataW.trod_int Try.underlying5 f1
  have f2 : DataW.trod enc Try.prog W 0 (fun _ => true) true m 5 ((cs.drop 2).take (Try.prog.cellsOf 5)) = some x2 := hf 2 _ rfl
  rw [show Try.prog.cellsOf 5 = 1 from (by kernel_rfl)] at f2
  obtain ⟨v2, e2, -, w2⟩ := DataW.trod_int Try.underlying5 f2
  have f3 : DataW.trod enc Try.prog W 0 (fun _ => true) true m 49 ((cs.drop 3).take (Try.prog.cellsOf 49)) = some x3 := hf 3 _ rfl
  rw [show Try.prog.cellsOf 49 = 1 from (by kernel_rfl)] at f3
  obtain ⟨v3, e3, -, w3⟩ := DataW.trod_int Try.underlying49 f3
  refine ⟨⟨v0, v1, v2, v3⟩, ?_, w0, w1, w2, w3⟩
  have g0 := one_field e0
  have g1 := one_field e1
  have g2 := one_field e2
  have g3 := one_field e3
  match cs, hl' with
  | [c0, c1, c2, c3], _ => simp at g0 g1 g2 g3; subst g0 g1 g2 g3; rfl

theorem open_Acts {H : Type} {enc : TypeId × Value → H} {W : World} {v : Value} {d : DataW H} {p : List MemPlace} {base : Nat}
    (hv : Value.okWide Try.prog W .any base 99 v) (h : DataW.Trod enc Try.prog W 0 (fun _ => true) true 99 v d p) :
    ∃ zs : List Go.Lf.Act, Rd W 4 v zs.length (actCells zs) ∧ (∀ y ∈ zs, Go.Lf.Act.wf y) ∧ (zs.length ≤ maxLen ∧ CapOk v) :=
  by
  obtain ⟨z, h1, h2, h3⟩ := open_flat 4 Try.underlying99 (by kernel_rfl) (by decide) (fun _ => rfl) (fun _ _ _ h => act_of h) hv h
  exact ⟨z, h1, h2, h3, cap_of Try.underlying99 hv h⟩

theorem open_Act {H : Type} {enc : TypeId × Value → H} {W : World} {v : Value} {d : DataW H} {p : List MemPlace} {base : Nat}
    (hv : Value.okWide Try.prog W .any base 191 v) (h : DataW.Trod enc Try.prog W 0 (fun _ => true) true 191 v d p) :
    ∃ z : Go.Lf.Act, v = .agg z.cells.toArray ∧ z.wf := by
  obtain ⟨cs, rfl, hsz⟩ := okWide_struct Try.underlying191 hv
  obtain ⟨fuel, hf⟩ := h
  obtain ⟨y, hy, hw⟩ := act_of hf
  refine ⟨y, ?_, hw⟩
  rw [← hy]
  simp [Value.cells]

end Go.Proofs.Ytihgfklajhhikaa
