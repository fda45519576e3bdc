
/- The reference's domain: Check, Values, Of, Bit, All: contracts. -/
import Derived.Test.YtihgfklajhhikaaDomLeast
import Derived.BigQuiet
namespace Go.Proofs.Ytihgfklajhhikaa
open Go.RowKit Go.Lf

section
variable {a : Option Addr} {c : Nat} {w : World}

set_option maxHeartbeats 400000 in
theorem bit_any (v : Nat) (hv : v < 64) : Calls Try.prog 135 #[.int .i64 v] w fun e w' => e = .returned (.int .u64 (2 ^ v : Nat)) ∧ w = w' := by
  have hw := hid (wrap_pow hv)
  go_enter Try.func135, Try.ntmps135
  go_wp2
  go_ret
  refine ⟨ret_num' ?_, rfl⟩
  rw [← hw.out]

theorem or_pow {s v : Nat} (hs : s < 18446744073709551616) (hv : v < 64) : Go.bits .or .u64 (s : Int) ((2 ^ v : Nat) : Int) = ((s ||| 2 ^ v : Nat) : Int) := bits_or_u64 hs (pow_lt64 hv)

end
end Go.Proofs.Ytihgfklajhhikaa
