
/- The reference's domain: Check, Values, Of, Bit, All: contracts. -/
import Derived.Test.YtldjlcdccnnogaaGreatDomLeast
import Derived.BigQuiet
namespace Go.Proofs.YtldjlcdccnnogaaGreat
open Go.RowKit Go.Lf

section
variable {a : Option Addr} {c : Nat} {w : World}

theorem or_pow {s v : Nat} (hs : s < 18446744073709551616) (hv : v < 64) : Go.bits .or .u64 (s : Int) ((2 ^ v : Nat) : Int) = ((s ||| 2 ^ v : Nat) : Int) := bits_or_u64 hs (pow_lt64 hv)

end
end Go.Proofs.YtldjlcdccnnogaaGreat
