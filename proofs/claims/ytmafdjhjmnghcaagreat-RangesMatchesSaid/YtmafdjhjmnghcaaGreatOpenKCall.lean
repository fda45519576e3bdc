/- The calls of RangesMatches that come in as arguments: structs that hold a struct. -/
import Derived.Test.YtmafdjhjmnghcaaGreatOpenBase
import Derived.Test.YtmafdjhjmnghcaaGreatRngMR
import Derived.Test.YtmafdjhjmnghcaaGreatOpenConf
namespace Go.Proofs.YtmafdjhjmnghcaaGreat
open Go.RowKit Go.Lf Go.ChangeShapes Go.WideShapes Go.ChangeAt
set_option linter.unusedVariables false
set_option maxRecDepth 100000
theorem kspan_of {H : Type} {enc : TypeId × Value → H} {W : World} {n : Nat} {cs : List Value} {x : DataW H × List MemPlace} (h : DataW.trod enc Tryz.prog W 0 (fun _ => true) true n 28 cs = some x) : ∃ lo hi : Int, cs = [.int .u64 lo, .int .u64 hi] ∧ (Lit.int .u64 lo).wf = true ∧ (Lit.int .u64 hi).wf = true := by
  obtain ⟨xs, m, _, _, hl, hxl, hf⟩ := DataW.trod_struct Tryz.underlying28 h
  have hl' : cs.length = 2 := hl.trans (by kernel_rfl)
  obtain ⟨x0, x1, rfl⟩ : ∃ x0 x1, xs = [x0, x1] := by
    match xs, (show xs.length = 2 from hxl) with
    | [a0, a1], _ => exact ⟨a0, a1, rfl⟩
  have f0 : DataW.trod enc Tryz.prog W 0 (fun _ => true) true m 26 ((cs.drop 0).take (Tryz.prog.cellsOf 26)) = some x0 := hf 0 _ rfl
  rw [show Tryz.prog.cellsOf 26 = 1 from (by kernel_rfl)] at f0
  obtain ⟨v0, e0, -, w0⟩ := DataW.trod_int Tryz.underlying26 f0
  have f1 : DataW.trod enc Tryz.prog W 0 (fun _ => true) true m 26 ((cs.drop 1).take (Tryz.prog.cellsOf 26)) = some x1 := hf 1 _ rfl
  rw [show Tryz.prog.cellsOf 26 = 1 from (by kernel_rfl)] at f1
  obtain ⟨v1, e1, -, w1⟩ := DataW.trod_int Tryz.underlying26 f1
  refine ⟨v0, v1, ?_, w0, w1⟩
  have g0 := one_field e0
  have g1 := one_field e1
  match cs, hl' with
  | [c0, c1], _ => simp at g0 g1; subst g0 g1; rfl
theorem kcall_of {H : Type} {enc : TypeId × Value → H} {W : World} {n : Nat} {cs : List Value} {x : DataW H × List MemPlace} (h : DataW.trod enc Tryz.prog W 0 (fun _ => true) true n 107 cs = some x) : ∃ y : KCallV, cs = y.cells ∧ y.wf := by
  obtain ⟨xs, m, _, _, hl, hxl, hf⟩ := DataW.trod_struct Tryz.underlying107 h
  have hl' : cs.length = 5 := hl.trans (by kernel_rfl)
  obtain ⟨x0, x1, x2, x3, rfl⟩ : ∃ x0 x1 x2 x3, xs = [x0, x1, x2, x3] := by
    match xs, (show xs.length = 4 from hxl) with
    | [a0, a1, a2, a3], _ => exact ⟨a0, a1, a2, a3, rfl⟩
  have f0 : DataW.trod enc Tryz.prog W 0 (fun _ => true) true m 5 ((cs.drop 0).take (Tryz.prog.cellsOf 5)) = some x0 := hf 0 _ rfl
  rw [show Tryz.prog.cellsOf 5 = 1 from (by kernel_rfl)] at f0
  obtain ⟨v0, e0, -, w0⟩ := DataW.trod_int Tryz.underlying5 f0
  have f1 : DataW.trod enc Tryz.prog W 0 (fun _ => true) true m 3 ((cs.drop 1).take (Tryz.prog.cellsOf 3)) = some x1 := hf 1 _ rfl
  rw [show Tryz.prog.cellsOf 3 = 1 from (by kernel_rfl)] at f1
  obtain ⟨v1, e1, -, w1⟩ := DataW.trod_int Tryz.underlying3 f1
  have f2 : DataW.trod enc Tryz.prog W 0 (fun _ => true) true m 3 ((cs.drop 2).take (Tryz.prog.cellsOf 3)) = some x2 := hf 2 _ rfl
  rw [show Tryz.prog.cellsOf 3 = 1 from (by kernel_rfl)] at f2
  obtain ⟨v2, e2, -, w2⟩ := DataW.trod_int Tryz.underlying3 f2
  have f3 : DataW.trod enc Tryz.prog W 0 (fun _ => true) true m 28 ((cs.drop 3).take (Tryz.prog.cellsOf 28)) = some x3 := hf 3 _ rfl
  rw [show Tryz.prog.cellsOf 28 = 2 from (by kernel_rfl)] at f3
  obtain ⟨lo, hi, e3, w3, w4⟩ := kspan_of f3
  refine ⟨⟨v0, v1, v2, lo, hi⟩, ?_, w0, w1, w2, w3, w4⟩
  have g0 := one_field e0
  have g1 := one_field e1
  have g2 := one_field e2
  match cs, hl' with
  | [c0, c1, c2, c3, c4], _ =>
    simp at g0 g1 g2 e3
    obtain ⟨g3, g4⟩ := e3
    subst g0 g1 g2 g3 g4
    rfl
theorem open_Calls {H : Type} {enc : TypeId × Value → H} {W : World} {v : Value} {d : DataW H} {p : List MemPlace} {base : Nat}
    (hv : Value.okWide Tryz.prog W .any base 104 v) (h : DataW.Trod enc Tryz.prog W 0 (fun _ => true) true 104 v d p) :
    ∃ zs : List KCallV, Rd W 5 v zs.length (kcallCells zs) ∧ (∀ y ∈ zs, KCallV.wf y) ∧ zs.length ≤ maxLen :=
  open_flat 5 Tryz.underlying104 (by kernel_rfl) (by decide) (fun _ => rfl) (fun _ _ _ h => kcall_of h) hv h
end Go.Proofs.YtmafdjhjmnghcaaGreat
