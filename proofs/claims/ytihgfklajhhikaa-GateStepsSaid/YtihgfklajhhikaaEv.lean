/- An event of a run of engines, as data. -/
import Derived.Test.YtihgfklajhhikaaDo
namespace Go.Lf
open Go.RowKit
/-- An event. -/
structure EvE where
  d : Int
  t : Int
  s : Int
  v : Int
  r : Int
  e : Int
def EvE.cells (x : EvE) : List Value := [.int .u8 x.d, .int .i64 x.t, .int .i64 x.s, .int .i64 x.v, .int .i64 x.r, .int .u64 x.e]
def EvE.wf (x : EvE) : Prop := (Lit.int .u8 x.d).wf = true ∧ (Lit.int .i64 x.t).wf = true ∧ (Lit.int .i64 x.s).wf = true ∧ (Lit.int .i64 x.v).wf = true ∧ (Lit.int .i64 x.r).wf = true ∧ (Lit.int .u64 x.e).wf = true
def eveCells (l : List EvE) : List Value := l.flatMap EvE.cells
theorem eveCells_at {l : List EvE} {k j : Nat} {x : EvE} {u : Value} (hx : l[k]? = some x) (hu : x.cells[j]? = some u) : (eveCells l)[k * 6 + j]? = some u := flat_get (size := 6) (fun _ => rfl) hx hu
end Go.Lf
