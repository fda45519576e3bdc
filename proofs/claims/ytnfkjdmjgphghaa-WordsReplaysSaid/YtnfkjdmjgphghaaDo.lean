/- A call of a method of the memory, as data. -/
import Derived.Test.YtnfkjdmjgphghaaPlain
namespace Go.Lf
open Go.RowKit

structure Do where
  w : Int
  t : Int
  a : Int
  o : Int
  v : Int
def Do.cells (x : Do) : List Value := [.int .u8 x.w, .int .i64 x.t, .int .i64 x.a, .int .u64 x.o, .int .u64 x.v]
def Do.wf (x : Do) : Prop := (Lit.int .u8 x.w).wf = true ∧ (Lit.int .i64 x.t).wf = true ∧ (Lit.int .i64 x.a).wf = true ∧ (Lit.int .u64 x.o).wf = true ∧ (Lit.int .u64 x.v).wf = true
def doCells (l : List Do) : List Value := l.flatMap Do.cells
end Go.Lf
