/- This seat has no reference: what the templates import under this name. -/
import Derived.Test.YtldjlcdccnnogaaGreatMem
namespace Go.Proofs.YtldjlcdccnnogaaGreat
end Go.Proofs.YtldjlcdccnnogaaGreat
