/- Structs of numbers and bools that come in as arguments, written by a program. -/
import Derived.Test.YtnfkjdmjgphghaaProg
import Derived.Test.YtnfkjdmjgphghaaOpenBase
import Derived.Test.YtnfkjdmjgphghaaPlain
import Derived.Test.YtnfkjdmjgphghaaDo
namespace Go.Proofs.Ytnfkjdmjgphghaa
open Go.RowKit Go.Lf Go.ChangeShapes Go.WideShapes Go.ChangeAt
set_option linter.unusedVariables false

theorem access_of {H : Type} {enc : TypeId × Value → H} {W : World} {n : Nat} {cs : List Value} {x : DataW H × List MemPlace} (h : DataW.trod enc Try.prog W 0 (fun _ => true) true n 56 cs = some x) : ∃ y : Acc, cs = y.cells ∧ y.wf := by
  obtain ⟨xs, m, _, _, hl, hxl, hf⟩ := DataW.trod_struct Try.underlying56 h
  have hl' : cs.length = 6 := hl.trans (by kernel_rfl)
  obtain ⟨x0, x1, x2, x3, x4, x5, rfl⟩ : ∃ x0 x1 x2 x3 x4 x5, xs = [x0, x1, x2, x3, x4, x5] := by
    match xs, (show xs.length = 6 from hxl) with
    | [a0, a1, a2, a3, a4, a5], _ => exact ⟨a0, a1, a2, a3, a4, a5, rfl⟩
  have f0 : DataW.trod enc Try.prog W 0 (fun _ => true) true m 3 ((cs.drop 0).take (Try.prog.cellsOf 3)) = some x0 := hf 0 _ rfl
  rw [show Try.prog.cellsOf 3 = 1 from (by kernel_rfl)] at f0
  obtain ⟨v0, e0, -, w0⟩ := DataW.trod_int Try.underlying3 f0
  have f1 : DataW.trod enc Try.prog W 0 (fun _ => true) true m 3 ((cs.drop 1).take (Try.prog.cellsOf 3)) = some x1 := hf 1 _ rfl
  rw [show Try.prog.cellsOf 3 = 1 from (by kernel_rfl)] at f1
  obtain ⟨v1, e1, -, w1⟩ := DataW.trod_int Try.underlying3 f1
  have f2 : DataW.trod enc Try.prog W 0 (fun _ => true) true m 5 ((cs.drop 2).take (Try.prog.cellsOf 5)) = some x2 := hf 2 _ rfl
  rw [show Try.prog.cellsOf 5 = 1 from (by kernel_rfl)] at f2
  obtain ⟨v2, e2, -, w2⟩ := DataW.trod_int Try.underlying5 f2
  have f3 : DataW.trod enc Try.prog W 0 (fun _ => true) true m 39 ((cs.drop 3).take (Try.prog.cellsOf 39)) = some x3 := hf 3 _ rfl
  rw [show Try.prog.cellsOf 39 = 1 from (by kernel_rfl)] at f3
  obtain ⟨v3, e3, -, w3⟩ := DataW.trod_int Try.underlying39 f3
  have f4 : DataW.trod enc Try.prog W 0 (fun _ => true) true m 39 ((cs.drop 4).take (Try.prog.cellsOf 39)) = some x4 := hf 4 _ rfl
  rw [show Try.prog.cellsOf 39 = 1 from (by kernel_rfl)] at f4
  obtain ⟨v4, e4, -, w4⟩ := DataW.trod_int Try.underlying39 f4
  have f5 : DataW.trod enc Try.prog W 0 (fun _ => true) true m 4 ((cs.drop 5).take (Try.prog.cellsOf 4)) = some x5 := hf 5 _ rfl
  rw [show Try.prog.cellsOf 4 = 1 from (by kernel_rfl)] at f5
  obtain ⟨v5, e5, -⟩ := DataW.trod_bool Try.underlying4 f5
  refine ⟨⟨v0, v1, v2, v3, v4, v5⟩, ?_, w0, w1, w2, w3, w4⟩
  have g0 := one_field e0
  have g1 := one_field e1
  have g2 := one_field e2
  have g3 := one_field e3
  have g4 := one_field e4
  have g5 := one_field e5
  match cs, hl' with
  | [c0, c1, c2, c3, c4, c5], _ => simp at g0 g1 g2 g3 g4 g5; subst g0 g1 g2 g3 g4 g5; rfl

theorem open_Accesss {H : Type} {enc : TypeId × Value → H} {W : World} {v : Value} {d : DataW H} {p : List MemPlace} {base : Nat}
    (hv : Value.okWide Try.prog W .any base 33 v) (h : DataW.Trod enc Try.prog W 0 (fun _ => true) true 33 v d p) :
    ∃ zs : List Acc, Rd W 6 v zs.length (logCells zs) ∧ (∀ y ∈ zs, Acc.wf y) ∧ zs.length ≤ maxLen :=
  open_flat 6 Try.underlying33 (by kernel_rfl) (by decide) (fun _ => rfl) (fun _ _ _ h => access_of h) hv h

theorem open_Access {H : Type} {enc : TypeId × Value → H} {W : World} {v : Value} {d : DataW H} {p : List MemPlace} {base : Nat}
    (hv : Value.okWide Try.prog W .any base 56 v) (h : DataW.Trod enc Try.prog W 0 (fun _ => true) true 56 v d p) :
    ∃ z : Acc, v = .agg z.cells.toArray ∧ z.wf := by
  obtain ⟨cs, rfl, hsz⟩ := okWide_struct Try.underlying56 hv
  obtain ⟨fuel, hf⟩ := h
  obtain ⟨y, hy, hw⟩ := access_of hf
  refine ⟨y, ?_, hw⟩
  rw [← hy]
  simp [Value.cells]

theorem do_of {H : Type} {enc : TypeId × Value → H} {W : World} {n : Nat} {cs : List Value} {x : DataW H × List MemPlace} (h : DataW.trod enc Try.prog W 0 (fun _ => true) true n 50 cs = some x) : ∃ y : Do, cs = y.cells ∧ y.wf := by
  obtain ⟨xs, m, _, _, hl, hxl, hf⟩ := DataW.trod_struct Try.underlying50 h
  have hl' : cs.length = 5 := hl.trans (by kernel_rfl)
  obtain ⟨x0, x1, x2, x3, x4, rfl⟩ : ∃ x0 x1 x2 x3 x4, xs = [x0, x1, x2, x3, x4] := by
    match xs, (show xs.length = 5 from hxl) with
    | [a0, a1, a2, a3, a4], _ => exact ⟨a0, a1, a2, a3, a4, rfl⟩
  have f0 : DataW.trod enc Try.prog W 0 (fun _ => true) true m 5 ((cs.drop 0).take (Try.prog.cellsOf 5)) = some x0 := hf 0 _ rfl
  rw [show Try.prog.cellsOf 5 = 1 from (by kernel_rfl)] at f0
  obtain ⟨v0, e0, -, w0⟩ := DataW.trod_int Try.underlying5 f0
  have f1 : DataW.trod enc Try.prog W 0 (fun _ => true) true m 3 ((cs.drop 1).take (Try.prog.cellsOf 3)) = some x1 := hf 1 _ rfl
  rw [show Try.prog.cellsOf 3 = 1 from (by kernel_rfl)] at f1
  obtain ⟨v1, e1, -, w1⟩ := DataW.trod_int Try.underlying3 f1
  have f2 : DataW.trod enc Try.prog W 0 (fun _ => true) true m 3 ((cs.drop 2).take (Try.prog.cellsOf 3)) = some x2 := hf 2 _ rfl
  rw [show Try.prog.cellsOf 3 = 1 from (by kernel_rfl)] at f2
  obtain ⟨v2, e2, -, w2⟩ := DataW.trod_int Try.underlying3 f2
  have f3 : DataW.trod enc Try.prog W 0 (fun _ => true) true m 39 ((cs.drop 3).take (Try.prog.cellsOf 39)) = some x3 := hf 3 _ rfl
  rw [show Try.prog.cellsOf 39 = 1 from (by kernel_rfl)] at f3
  obtain ⟨v3, e3, -, w3⟩ := DataW.trod_int Try.underlying39 f3
  have f4 : DataW.trod enc Try.prog W 0 (fun _ => true) true m 39 ((cs.drop 4).take (Try.prog.cellsOf 39)) = some x4 := hf 4 _ rfl
  rw [show Try.prog.cellsOf 39 = 1 from (by kernel_rfl)] at f4
  obtain ⟨v4, e4, -, w4⟩ := DataW.trod_int Try.underlying39 f4
  refine ⟨⟨v0, v1, v2, v3, v4⟩, ?_, w0, w1, w2, w3, w4⟩
  have g0 := one_field e0
  have g1 := one_field e1
  have g2 := one_field e2
  have g3 := one_field e3
  have g4 := one_field e4
  match cs, hl' with
  | [c0, c1, c2, c3, c4], _ => simp at g0 g1 g2 g3 g4; subst g0 g1 g2 g3 g4; rfl

theorem open_Dos {H : Type} {enc : TypeId × Value → H} {W : World} {v : Value} {d : DataW H} {p : List MemPlace} {base : Nat}
    (hv : Value.okWide Try.prog W .any base 53 v) (h : DataW.Trod enc Try.prog W 0 (fun _ => true) true 53 v d p) :
    ∃ zs : List Do, Rd W 5 v zs.length (doCells zs) ∧ (∀ y ∈ zs, Do.wf y) ∧ zs.length ≤ maxLen :=
  open_flat 5 Try.underlying53 (by kernel_rfl) (by decide) (fun _ => rfl) (fun _ _ _ h => do_of h) hv h

theorem open_Do {H : Type} {enc : TypeId × Value → H} {W : World} {v : Value} {d : DataW H} {p : List MemPlace} {base : Nat}
    (hv : Value.okWide Try.prog W .any base 50 v) (h : DataW.Trod enc Try.prog W 0 (fun _ => true) true 50 v d p) :
    ∃ z : Do, v = .agg z.cells.toArray ∧ z.wf := by
  obtain ⟨cs, rfl, hsz⟩ := okWide_struct Try.underlying50 hv
  obtain ⟨fuel, hf⟩ := h
  obtain ⟨y, hy, hw⟩ := do_of hf
  refine ⟨y, ?_, hw⟩
  rw [← hy]
  simp [Value.cells]

end Go.Proofs.Ytnfkjdmjgphghaa
