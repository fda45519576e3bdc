/- DomainOf at the arguments that come in. -/
import Derived.Test.YtfpobagkananeaaOpenDom
import Derived.Test.YtfpobagkananeaaDomOfLaw
namespace Go.Proofs.Ytfpobagkananeaa
open Go.RowKit Go.Lf
theorem law_of (w : World) (z : DomV) (b : DomArg w z) (x : Int) (bx : (Lit.int .u64 x).wf = true) :
    Calls Try.prog 4 #[z.val, .int .u64 x] w fun e w' => e = .returned (.bool true) ∧ Keep Nil w w' :=
  walk_of w z.d z.a z.c b.din b.len x (U64.of_wf' bx).1 (U64.of_wf' bx).2
end Go.Proofs.Ytfpobagkananeaa
