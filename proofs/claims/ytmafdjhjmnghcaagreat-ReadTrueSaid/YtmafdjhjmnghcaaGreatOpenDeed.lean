/- Structs of numbers and bools that come in as arguments, written by a program. -/
import Derived.Test.YtmafdjhjmnghcaaGreatProg
import Derived.Test.YtmafdjhjmnghcaaGreatOpenBase
import Derived.Test.YtmafdjhjmnghcaaGreatReadStP
namespace Go.Proofs.YtmafdjhjmnghcaaGreat
open Go.RowKit Go.Lf Go.ChangeShapes Go.WideShapes Go.ChangeAt
set_option linter.unusedVariables false
set_option maxRecDepth 100000

theorem deed_of {H : Type} {enc : TypeId × Value → H} {W : World} {n : Nat} {cs : List Value} {x : DataW H × List MemPlace} (h : DataW.trod enc Tryz.prog W 0 (fun _ => true) true n 188 cs = some x) : ∃ y : DeedV, cs = y.cells ∧ y.wf := by
  obtain ⟨xs, m, _, _, hl, hxl, hf⟩ := DataW.trod_struct Tryz.underlying188 h
  have hl' : cs.length = 3 := hl.trans (by kernel_rfl)
  obtain ⟨x0, x1, x2, rfl⟩ : ∃ x0 x1 x2, xs = [x0, x1, x2] := by
    match xs, (show xs.length = 3 from hxl) with
    | [a0, a1, a2], _ => exact ⟨a0, a1, a2, rfl⟩
  have f0 : DataW.trod enc Tryz.prog W 0 (fun _ => true) true m 5 ((cs.drop 0).take (Tryz.prog.cellsOf 5)) = some x0 := hf 0 _ rfl
  rw [show Tryz.prog.cellsOf 5 = 1 from (by kernel_rfl)] at f0
  obtain ⟨v0, e0, -, w0⟩ := DataW.trod_int Tryz.underlying5 f0
  have f1 : DataW.trod enc Tryz.prog W 0 (fun _ => true) true m 3 ((cs.drop 1).take (Tryz.prog.cellsOf 3)) = some x1 := hf 1 _ rfl
  rw [show Tryz.prog.cellsOf 3 = 1 from (by kernel_rfl)] at f1
  obtain ⟨v1, e1, -, w1⟩ := DataW.trod_int Tryz.underlying3 f1
  have f2 : DataW.trod enc Tryz.prog W 0 (fun _ => true) true m 26 ((cs.drop 2).take (Tryz.prog.cellsOf 26)) = some x2 := hf 2 _ rfl
  rw [show Tryz.prog.cellsOf 26 = 1 from (by kernel_rfl)] at f2
  obtain ⟨v2, e2, -, w2⟩ := DataW.trod_int Tryz.underlying26 f2
  refine ⟨⟨v0, v1, v2⟩, ?_, w0, w1, w2⟩
  have g0 := one_field e0
  have g1 := one_field e1
  have g2 := one_field e2
  match cs, hl' with
  | [c0, c1, c2], _ => simp at g0 g1 g2; subst g0 g1 g2; rfl

theorem open_Deeds {H : Type} {enc : TypeId × Value → H} {W : World} {v : Value} {d : DataW H} {p : List MemPlace} {base : Nat}
    (hv : Value.okWide Tryz.prog W .any base 87 v) (h : DataW.Trod enc Tryz.prog W 0 (fun _ => true) true 87 v d p) :
    ∃ zs : List DeedV, Rd W 3 v zs.length (deedCells zs) ∧ (∀ y ∈ zs, DeedV.wf y) ∧ zs.length ≤ maxLen :=
  open_flat 3 Tryz.underlying87 (by kernel_rfl) (by decide) (fun _ => rfl) (fun _ _ _ h => deed_of h) hv h

theorem open_Deed {H : Type} {enc : TypeId × Value → H} {W : World} {v : Value} {d : DataW H} {p : List MemPlace} {base : Nat}
    (hv : Value.okWide Tryz.prog W .any base 188 v) (h : DataW.Trod enc Tryz.prog W 0 (fun _ => true) true 188 v d p) :
    ∃ z : DeedV, v = .agg z.cells.toArray ∧ z.wf := by
  obtain ⟨cs, rfl, hsz⟩ := okWide_struct Tryz.underlying188 hv
  obtain ⟨fuel, hf⟩ := h
  obtain ⟨y, hy, hw⟩ := deed_of hf
  refine ⟨y, ?_, hw⟩
  rw [← hy]
  simp [Value.cells]

end Go.Proofs.YtmafdjhjmnghcaaGreat
