/- DomainSets at the arguments that come in. -/
import Derived.Test.YtfpobagkananeaaOpenSpans
import Derived.Test.YtfpobagkananeaaDomSetsWalk
namespace Go.Proofs.Ytfpobagkananeaa
open Go.RowKit Go.Lf
theorem law_sets (w : World) (v : Value) (zs : List Int) (hrd : Rd w 1 v zs.length (zs.map (Value.int .i64))) (bz : ∀ n ∈ zs, (Lit.int .i64 n).wf = true) (hm : zs.length ≤ maxLen) (s : Int) (bs : (Lit.int .u64 s).wf = true) (z : PartsV) (_b : z.wf) :
    Calls Try.prog 10 #[v, .int .u64 s, .agg z.cells.toArray] w fun e w' => e = .returned (.bool true) ∧ Keep Nil w w' :=
  walk_sets w v zs hrd bz hm s bs z.value z.buckets
end Go.Proofs.Ytfpobagkananeaa
