/- Structs of numbers and bools that come in as arguments, written by a program. -/
import Derived.Test.YtmafdjhjmnghcaaGreatProg
import Derived.Test.YtmafdjhjmnghcaaGreatOpenBase
import Derived.Test.YtmafdjhjmnghcaaGreatReadFP
import Derived.Test.YtmafdjhjmnghcaaGreatOpenCap
namespace Go.Lf
open Go.RowKit

/-- leapfroglaw25.Arg as data. -/
structure RArg where
  thread : Int
  tower : Int
  tries : Int
def RArg.cells (x : RArg) : List Value := [.int .i64 x.thread, .int .i64 x.tower, .int .i64 x.tries]
def RArg.wf (x : RArg) : Prop := (Lit.int .i64 x.thread).wf = true ∧ (Lit.int .i64 x.tower).wf = true ∧ (Lit.int .i64 x.tries).wf = true
def rargCells (l : List RArg) : List Value := l.flatMap RArg.cells
end Go.Lf
namespace Go.Proofs.YtmafdjhjmnghcaaGreat
open Go.RowKit Go.Lf Go.ChangeShapes Go.WideShapes Go.ChangeAt
set_option linter.unusedVariables false
set_option maxRecDepth 100000

theorem arg_of {H : Type} {enc : TypeId × Value → H} {W : World} {n : Nat} {cs : List Value} {x : DataW H × List MemPlace} (h : DataW.trod enc Tryz.prog W 0 (fun _ => true) true n 78 cs = some x) : ∃ y : RArg, cs = y.cells ∧ y.wf := by
  obtain ⟨xs, m, _, _, hl, hxl, hf⟩ := DataW.trod_struct Tryz.underlying78 h
  have hl' : cs.length = 3 := hl.trans (by kernel_rfl)
  obtain ⟨x0, x1, x2, rfl⟩ : ∃ x0 x1 x2, xs = [x0, x1, x2] := by
    match xs, (show xs.length = 3 from hxl) with
    | [a0, a1, a2], _ => exact ⟨a0, a1, a2, rfl⟩
  have f0 : DataW.trod enc Tryz.prog W 0 (fun _ => true) true m 3 ((cs.drop 0).take (Tryz.prog.cellsOf 3)) = some x0 := hf 0 _ rfl
  rw [show Tryz.prog.cellsOf 3 = 1 from (by kernel_rfl)] at f0
  obtain ⟨v0, e0, -, w0⟩ := DataW.trod_int Tryz.underlying3 f0
  have f1 : DataW.trod enc Tryz.prog W 0 (fun _ => true) true m 3 ((cs.drop 1).take (Tryz.prog.cellsOf 3)) = some x1 := hf 1 _ rfl
  rw [show Tryz.prog.cellsOf 3 = 1 from (by kernel_rfl)] at f1
  obtain ⟨v1, e1, -, w1⟩ := DataW.trod_int Tryz.underlying3 f1
  have f2 : DataW.trod enc Tryz.prog W 0 (fun _ => true) true m 3 ((cs.drop 2).take (Tryz.prog.cellsOf 3)) = some x2 := hf 2 _ rfl
  rw [show Tryz.prog.cellsOf 3 = 1 from (by kernel_rfl)] at f2
  obtain ⟨v2, e2, -, w2⟩ := DataW.trod_int Tryz.underlying3 f2
  refine ⟨⟨v0, v1, v2⟩, ?_, w0, w1, w2⟩
  have g0 := one_field e0
  have g1 := one_field e1
  have g2 := one_field e2
  match cs, hl' with
  | [c0, c1, c2], _ => simp at g0 g1 g2; subst g0 g1 g2; rfl

theorem open_Args {H : Type} {enc : TypeId × Value → H} {W : World} {v : Value} {d : DataW H} {p : List MemPlace} {base : Nat}
    (hv : Value.okWide Tryz.prog W .any base 79 v) (h : DataW.Trod enc Tryz.prog W 0 (fun _ => true) true 79 v d p) :
    ∃ zs : List RArg, Rd W 3 v zs.length (rargCells zs) ∧ (∀ y ∈ zs, RArg.wf y) ∧ (zs.length ≤ maxLen ∧ CapOk v) :=
  by
  obtain ⟨z, h1, h2, h3⟩ := open_flat 3 Tryz.underlying79 (by kernel_rfl) (by decide) (fun _ => rfl) (fun _ _ _ h => arg_of h) hv h
  exact ⟨z, h1, h2, h3, cap_of Tryz.underlying79 hv h⟩

theorem open_Arg {H : Type} {enc : TypeId × Value → H} {W : World} {v : Value} {d : DataW H} {p : List MemPlace} {base : Nat}
    (hv : Value.okWide Tryz.prog W .any base 78 v) (h : DataW.Trod enc Tryz.prog W 0 (fun _ => true) true 78 v d p) :
    ∃ z : RArg, v = .agg z.cells.toArray ∧ z.wf := by
  obtain ⟨cs, rfl, hsz⟩ := okWide_struct Tryz.underlying78 hv
  obtain ⟨fuel, hf⟩ := h
  obtain ⟨y, hy, hw⟩ := arg_of hf
  refine ⟨y, ?_, hw⟩
  rw [← hy]
  simp [Value.cells]

theorem set_of {H : Type} {enc : TypeId × Value → H} {W : World} {n : Nat} {cs : List Value} {x : DataW H × List MemPlace} (h : DataW.trod enc Tryz.prog W 0 (fun _ => true) true n 100 cs = some x) : ∃ y : SetV, cs = y.cells ∧ y.wf := by
  obtain ⟨xs, m, _, _, hl, hxl, hf⟩ := DataW.trod_struct Tryz.underlying100 h
  have hl' : cs.length = 4 := hl.trans (by kernel_rfl)
  obtain ⟨x0, x1, x2, x3, rfl⟩ : ∃ x0 x1 x2 x3, xs = [x0, x1, x2, x3] := by
    match xs, (show xs.length = 4 from hxl) with
    | [a0, a1, a2, a3], _ => exact ⟨a0, a1, a2, a3, rfl⟩
  have f0 : DataW.trod enc Tryz.prog W 0 (fun _ => true) true m 3 ((cs.drop 0).take (Tryz.prog.cellsOf 3)) = some x0 := hf 0 _ rfl
  rw [show Tryz.prog.cellsOf 3 = 1 from (by kernel_rfl)] at f0
  obtain ⟨v0, e0, -, w0⟩ := DataW.trod_int Tryz.underlying3 f0
  have f1 : DataW.trod enc Tryz.prog W 0 (fun _ => true) true m 5 ((cs.drop 1).take (Tryz.prog.cellsOf 5)) = some x1 := hf 1 _ rfl
  rw [show Tryz.prog.cellsOf 5 = 1 from (by kernel_rfl)] at f1
  obtain ⟨v1, e1, -, w1⟩ := DataW.trod_int Tryz.underlying5 f1
  have f2 : DataW.trod enc Tryz.prog W 0 (fun _ => true) true m 3 ((cs.drop 2).take (Tryz.prog.cellsOf 3)) = some x2 := hf 2 _ rfl
  rw [show Tryz.prog.cellsOf 3 = 1 from (by kernel_rfl)] at f2
  obtain ⟨v2, e2, -, w2⟩ := DataW.trod_int Tryz.underlying3 f2
  have f3 : DataW.trod enc Tryz.prog W 0 (fun _ => true) true m 26 ((cs.drop 3).take (Tryz.prog.cellsOf 26)) = some x3 := hf 3 _ rfl
  rw [show Tryz.prog.cellsOf 26 = 1 from (by kernel_rfl)] at f3
  obtain ⟨v3, e3, -, w3⟩ := DataW.trod_int Tryz.underlying26 f3
  refine ⟨⟨v0, v1, v2, v3⟩, ?_, w0, w1, w2, w3⟩
  have g0 := one_field e0
  have g1 := one_field e1
  have g2 := one_field e2
  have g3 := one_field e3
  match cs, hl' with
  | [c0, c1, c2, c3], _ => simp at g0 g1 g2 g3; subst g0 g1 g2 g3; rfl

theorem open_Sets {H : Type} {enc : TypeId × Value → H} {W : World} {v : Value} {d : DataW H} {p : List MemPlace} {base : Nat}
    (hv : Value.okWide Tryz.prog W .any base 93 v) (h : DataW.Trod enc Tryz.prog W 0 (fun _ => true) true 93 v d p) :
    ∃ zs : List SetV, Rd W 4 v zs.length (setCells zs) ∧ (∀ y ∈ zs, SetV.wf y) ∧ (zs.length ≤ maxLen ∧ CapOk v) :=
  by
  obtain ⟨z, h1, h2, h3⟩ := open_flat 4 Tryz.underlying93 (by kernel_rfl) (by decide) (fun _ => rfl) (fun _ _ _ h => set_of h) hv h
  exact ⟨z, h1, h2, h3, cap_of Tryz.underlying93 hv h⟩

theorem open_Set {H : Type} {enc : TypeId × Value → H} {W : World} {v : Value} {d : DataW H} {p : List MemPlace} {base : Nat}
    (hv : Value.okWide Tryz.prog W .any base 100 v) (h : DataW.Trod enc Tryz.prog W 0 (fun _ => true) true 100 v d p) :
    ∃ z : SetV, v = .agg z.cells.toArray ∧ z.wf := by
  obtain ⟨cs, rfl, hsz⟩ := okWide_struct Tryz.underlying100 hv
  obtain ⟨fuel, hf⟩ := h
  obtain ⟨y, hy, hw⟩ := set_of hf
  refine ⟨y, ?_, hw⟩
  rw [← hy]
  simp [Value.cells]

end Go.Proofs.YtmafdjhjmnghcaaGreat
