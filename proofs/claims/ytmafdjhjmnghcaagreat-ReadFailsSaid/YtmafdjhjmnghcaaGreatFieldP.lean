/- Words of states, descriptors, heads: plain. -/
import Derived.Test.YtmafdjhjmnghcaaGreatDomPlain
set_option linter.unusedVariables false
set_option linter.unusedSimpArgs false
namespace Go.Lf
def fKind (w : Int) : Int := w % 8
def fEntry (w : Int) : Int := w % 65536 / 8
def fGen (w : Int) : Int := w / 65536
/-- Whether a state word may have these parts. -/
def fValid (k e g : Int) : Bool :=
  if k = 0 ∨ k = 1 ∨ k = 2 then decide (e = 0 ∧ g = 0)
  else if k = 3 ∨ k = 4 ∨ k = 5 then decide (0 ≤ e ∧ e < 16 ∧ g ≤ 1099511627775)
  else false
def fOk (w : Int) : Bool := fValid (fKind w) (fEntry w) (fGen w)
def fDec (s d : Int) : Bool := !decide (d / 2 = fGen s) || decide (d % 2 = 1)
/-- Present, alternative, error. -/
def fDecide (s d : Int) : Bool × Bool × Int :=
  if fOk s = false ∨ 1099511627775 < d / 2 then (false, false, 4)
  else if fKind s = 1 then (true, false, 0)
  else if fKind s = 3 then (fDec s d, false, 0)
  else if fKind s = 4 then (!fDec s d, false, 0)
  else if fKind s = 5 then (true, fDec s d, 0)
  else (false, false, 0)
theorem fOk_kind {w : Int} (h : fOk w = true) : fKind w = 0 ∨ fKind w = 1 ∨ fKind w = 2 ∨ fKind w = 3 ∨ fKind w = 4 ∨ fKind w = 5 := by
  unfold fOk fValid at h
  split at h
  · omega
  · split at h
    · omega
    · cases h
theorem fKind_rng {w : Int} : 0 ≤ fKind w ∧ fKind w < 8 := by unfold fKind; omega
theorem fEntry_rng {w : Int} : 0 ≤ fEntry w ∧ fEntry w < 8192 := by unfold fEntry; omega
theorem fGen_rng {w : Int} (h0 : 0 ≤ w) (h1 : w < 18446744073709551616) : 0 ≤ fGen w ∧ fGen w < 281474976710656 := by unfold fGen; omega
end Go.Lf
