/- DomainImage and DomainOf at the arguments that come in. -/
import Derived.Test.YtfpobagkananeaaOpenDom
import Derived.Test.YtfpobagkananeaaDomImage
namespace Go.Proofs.Ytfpobagkananeaa
open Go.RowKit Go.Lf
theorem law_image (w : World) (z : DomV) (b : DomArg w z) (s : SpanV) (bs : s.wf) (x : Int) (bx : (Lit.int .u64 x).wf = true) :
    Calls Try.prog 8 #[z.val, .agg s.cells.toArray, .int .u64 x] w fun e w' => e = .returned (.bool true) ∧ Keep Nil w w' :=
  walk_image w z.d z.a z.c b.din s.lo s.hi (U64.of_wf' bs.1).1 (U64.of_wf' bs.2).2 x (U64.of_wf' bx).1 (U64.of_wf' bx).2
end Go.Proofs.Ytfpobagkananeaa
