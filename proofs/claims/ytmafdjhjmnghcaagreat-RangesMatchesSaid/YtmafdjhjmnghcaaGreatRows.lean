/-
  No cell of these rows narrows 'for every input' (looked for: loops, veiled, ifaces, maps, wideKeys, modest, calm, conditions, laid).
  DERIVED. THE GIVEN ROWS OF THIS SEAT. 9 by the template 'for every input the law returns true; each argument reads behind the call as it read before'; 0 by the template 'total and deterministic' (their statements: YtmafdjhjmnghcaaGreatTotals.lean).
  GIVEN WITH THE SEED: the statements are not yours to turn. If you find one false, say at which input.
  Laid BY PROGRAM, IN A SANDBOX (cutbox-rows.mjs): the forced cells as the released guide's own fill.sh prints them over the translation 440a60d10d63cec2… (all of the seat's roots in one cut). By AI agents, Wed Nov 11 2026. No macro, syntax, notation, axiom, sorry.
-/
import Derived.Test.YtmafdjhjmnghcaaGreatChecked
import GoSem.Claim
import GoSem.ClaimJoined
import GoSem.ClaimMapViews
import Derived.JoinedTies
import Derived.KernelRfl
namespace Go.Proofs.YtmafdjhjmnghcaaGreat
/- THE CELL 'sum', in the pinned program and in every row, IS THE sha256 OF THE DUMP (.gsa) THAT YtmafdjhjmnghcaaGreatProg.lean LOADS. Nothing in Lean hashes anything: it is a label: what it is worth is what the hold of that sum in a sandbox is worth. -/
noncomputable def Tryz.pinned : Pinned := { name := "ytmafdjhjmnghcaagreat", sum := "440a60d10d63cec2dcbc14a845caa32f65b25298a4bcfa6879991dc5231bd3ec", checked := Tryz.checked }
namespace Rows
def none {H : Type} : Left H := { results := [], args := [] }

/-- 'leapfroglaw31.RangesNames': WHATEVER THE INPUT: true; the input reads as it did. -/
def rangesNamesSpec : ChangeSpec := { name := "rangesNames", fn := fun _ => fun
  | [] => { results := [.lit (.bool true)], args := [] }
  | _ => none }
def rangesNamesRow : OpenClaim := { program := "ytmafdjhjmnghcaagreat", sum := "440a60d10d63cec2dcbc14a845caa32f65b25298a4bcfa6879991dc5231bd3ec", func := "leapfrog/leapfroglaw31.RangesNames", spec := "rangesNames", inPlace := ["sync/atomic.LoadUint64", "sync/atomic.CompareAndSwapUint64", "sync/atomic.SwapUint64", "sync/atomic.StoreUint64"], unfollowed := true, recurses := true, apart := false }
def RangesNamesSaid : Prop := rangesNamesRow.holds Tryz.pinned (OpenSpec.ofChange rangesNamesSpec)

/-- ITS FALSE NEIGHBOUR: 'it returns false'. Refute it at one input. -/
def rangesNamesWrong : ChangeSpec := { name := "rangesNames", fn := fun _ => fun
  | [] => { results := [.lit (.bool false)], args := [] }
  | _ => none }
def RangesNamesWrongFalsely : Prop := rangesNamesRow.holds Tryz.pinned (OpenSpec.ofChange rangesNamesWrong)

/-- 'leapfroglaw31.RangesApart': WHATEVER THE INPUT: true; the input reads as it did. -/
def rangesApartSpec : ChangeSpec := { name := "rangesApart", fn := fun _ => fun
  | [d1, d2, d3, d4] => { results := [.lit (.bool true)], args := [d1, d2, d3, d4] }
  | _ => none }
def rangesApartRow : OpenClaim := { program := "ytmafdjhjmnghcaagreat", sum := "440a60d10d63cec2dcbc14a845caa32f65b25298a4bcfa6879991dc5231bd3ec", func := "leapfrog/leapfroglaw31.RangesApart", spec := "rangesApart", inPlace := ["sync/atomic.StoreUint64", "sync/atomic.LoadUint64", "sync/atomic.SwapUint64", "sync/atomic.CompareAndSwapUint64"], unfollowed := true, recurses := true, apart := false }
def RangesApartSaid : Prop := rangesApartRow.holds Tryz.pinned (OpenSpec.ofChange rangesApartSpec)

/-- ITS FALSE NEIGHBOUR: 'it returns false'. Refute it at one input. -/
def rangesApartWrong : ChangeSpec := { name := "rangesApart", fn := fun _ => fun
  | [d1, d2, d3, d4] => { results := [.lit (.bool false)], args := [d1, d2, d3, d4] }
  | _ => none }
def RangesApartWrongFalsely : Prop := rangesApartRow.holds Tryz.pinned (OpenSpec.ofChange rangesApartWrong)

/-- 'leapfroglaw31.RangesQuiet': WHATEVER THE INPUT: true; the input reads as it did. -/
def rangesQuietSpec : ChangeSpec := { name := "rangesQuiet", fn := fun _ => fun
  | [d1, d2, d3, d4] => { results := [.lit (.bool true)], args := [d1, d2, d3, d4] }
  | _ => none }
def rangesQuietRow : OpenClaim := { program := "ytmafdjhjmnghcaagreat", sum := "440a60d10d63cec2dcbc14a845caa32f65b25298a4bcfa6879991dc5231bd3ec", func := "leapfrog/leapfroglaw31.RangesQuiet", spec := "rangesQuiet", inPlace := ["sync/atomic.StoreUint64", "sync/atomic.LoadUint64", "sync/atomic.SwapUint64", "sync/atomic.CompareAndSwapUint64"], unfollowed := true, recurses := true, apart := false }
def RangesQuietSaid : Prop := rangesQuietRow.holds Tryz.pinned (OpenSpec.ofChange rangesQuietSpec)

/-- ITS FALSE NEIGHBOUR: 'it returns false'. Refute it at one input. -/
def rangesQuietWrong : ChangeSpec := { name := "rangesQuiet", fn := fun _ => fun
  | [d1, d2, d3, d4] => { results := [.lit (.bool false)], args := [d1, d2, d3, d4] }
  | _ => none }
def RangesQuietWrongFalsely : Prop := rangesQuietRow.holds Tryz.pinned (OpenSpec.ofChange rangesQuietWrong)

/-- 'leapfroglaw25.ReadNames': WHATEVER THE INPUT: true; the input reads as it did. -/
def readNamesSpec : ChangeSpec := { name := "readNames", fn := fun _ => fun
  | [] => { results := [.lit (.bool true)], args := [] }
  | _ => none }
def readNamesRow : OpenClaim := { program := "ytmafdjhjmnghcaagreat", sum := "440a60d10d63cec2dcbc14a845caa32f65b25298a4bcfa6879991dc5231bd3ec", func := "leapfrog/leapfroglaw25.ReadNames", spec := "readNames", inPlace := ["sync/atomic.LoadUint64", "sync/atomic.StoreUint64", "sync/atomic.SwapUint64"], unfollowed := true, recurses := true, apart := false }
def ReadNamesSaid : Prop := readNamesRow.holds Tryz.pinned (OpenSpec.ofChange readNamesSpec)

/-- ITS FALSE NEIGHBOUR: 'it returns false'. Refute it at one input. -/
def readNamesWrong : ChangeSpec := { name := "readNames", fn := fun _ => fun
  | [] => { results := [.lit (.bool false)], args := [] }
  | _ => none }
def ReadNamesWrongFalsely : Prop := readNamesRow.holds Tryz.pinned (OpenSpec.ofChange readNamesWrong)

/-- 'leapfroglaw25.ReadQuiet': WHATEVER THE INPUT: true; the input reads as it did. -/
def readQuietSpec : ChangeSpec := { name := "readQuiet", fn := fun _ => fun
  | [d1, d2, d3, d4, d5, d6] => { results := [.lit (.bool true)], args := [d1, d2, d3, d4, d5, d6] }
  | _ => none }
def readQuietRow : OpenClaim := { program := "ytmafdjhjmnghcaagreat", sum := "440a60d10d63cec2dcbc14a845caa32f65b25298a4bcfa6879991dc5231bd3ec", func := "leapfrog/leapfroglaw25.ReadQuiet", spec := "readQuiet", inPlace := ["sync/atomic.StoreUint64", "sync/atomic.LoadUint64", "sync/atomic.SwapUint64"], unfollowed := true, recurses := true, apart := false }
def ReadQuietSaid : Prop := readQuietRow.holds Tryz.pinned (OpenSpec.ofChange readQuietSpec)

/-- ITS FALSE NEIGHBOUR: 'it returns false'. Refute it at one input. -/
def readQuietWrong : ChangeSpec := { name := "readQuiet", fn := fun _ => fun
  | [d1, d2, d3, d4, d5, d6] => { results := [.lit (.bool false)], args := [d1, d2, d3, d4, d5, d6] }
  | _ => none }
def ReadQuietWrongFalsely : Prop := readQuietRow.holds Tryz.pinned (OpenSpec.ofChange readQuietWrong)

/-- 'leapfroglaw25.ReadTrue': WHATEVER THE INPUT: true; the input reads as it did. -/
def readTrueSpec : ChangeSpec := { name := "readTrue", fn := fun _ => fun
  | [d1, d2, d3, d4, d5, d6] => { results := [.lit (.bool true)], args := [d1, d2, d3, d4, d5, d6] }
  | _ => none }
def readTrueRow : OpenClaim := { program := "ytmafdjhjmnghcaagreat", sum := "440a60d10d63cec2dcbc14a845caa32f65b25298a4bcfa6879991dc5231bd3ec", func := "leapfrog/leapfroglaw25.ReadTrue", spec := "readTrue", inPlace := ["sync/atomic.StoreUint64", "sync/atomic.LoadUint64", "sync/atomic.SwapUint64"], unfollowed := true, recurses := true, apart := false }
def ReadTrueSaid : Prop := readTrueRow.holds Tryz.pinned (OpenSpec.ofChange readTrueSpec)

/-- ITS FALSE NEIGHBOUR: 'it returns false'. Refute it at one input. -/
def readTrueWrong : ChangeSpec := { name := "readTrue", fn := fun _ => fun
  | [d1, d2, d3, d4, d5, d6] => { results := [.lit (.bool false)], args := [d1, d2, d3, d4, d5, d6] }
  | _ => none }
def ReadTrueWrongFalsely : Prop := readTrueRow.holds Tryz.pinned (OpenSpec.ofChange readTrueWrong)

/-- 'leapfroglaw25.ReadFails': WHATEVER THE INPUT: true; the input reads as it did. -/
def readFailsSpec : ChangeSpec := { name := "readFails", fn := fun _ => fun
  | [d1, d2, d3] => { results := [.lit (.bool true)], args := [d1, d2, d3] }
  | _ => none }
def readFailsRow : OpenClaim := { program := "ytmafdjhjmnghcaagreat", sum := "440a60d10d63cec2dcbc14a845caa32f65b25298a4bcfa6879991dc5231bd3ec", func := "leapfrog/leapfroglaw25.ReadFails", spec := "readFails", inPlace := ["sync/atomic.StoreUint64", "sync/atomic.LoadUint64", "sync/atomic.SwapUint64"], unfollowed := true, recurses := true, apart := false }
def ReadFailsSaid : Prop := readFailsRow.holds Tryz.pinned (OpenSpec.ofChange readFailsSpec)

/-- ITS FALSE NEIGHBOUR: 'it returns false'. Refute it at one input. -/
def readFailsWrong : ChangeSpec := { name := "readFails", fn := fun _ => fun
  | [d1, d2, d3] => { results := [.lit (.bool false)], args := [d1, d2, d3] }
  | _ => none }
def ReadFailsWrongFalsely : Prop := readFailsRow.holds Tryz.pinned (OpenSpec.ofChange readFailsWrong)

/-- 'leapfroglaw31.RangesMatches': WHATEVER THE INPUT: true; the input reads as it did. -/
def rangesMatchesSpec : ChangeSpec := { name := "rangesMatches", fn := fun _ => fun
  | [d1, d2] => { results := [.lit (.bool true)], args := [d1, d2] }
  | _ => none }
def rangesMatchesRow : OpenClaim := { program := "ytmafdjhjmnghcaagreat", sum := "440a60d10d63cec2dcbc14a845caa32f65b25298a4bcfa6879991dc5231bd3ec", func := "leapfrog/leapfroglaw31.RangesMatches", spec := "rangesMatches", inPlace := ["sync/atomic.StoreUint64", "sync/atomic.LoadUint64", "sync/atomic.CompareAndSwapUint64", "sync/atomic.SwapUint64"], unfollowed := true, recurses := true, apart := false }
def RangesMatchesSaid : Prop := rangesMatchesRow.holds Tryz.pinned (OpenSpec.ofChange rangesMatchesSpec)

/-- ITS FALSE NEIGHBOUR: 'it returns false'. Refute it at one input. -/
def rangesMatchesWrong : ChangeSpec := { name := "rangesMatches", fn := fun _ => fun
  | [d1, d2] => { results := [.lit (.bool false)], args := [d1, d2] }
  | _ => none }
def RangesMatchesWrongFalsely : Prop := rangesMatchesRow.holds Tryz.pinned (OpenSpec.ofChange rangesMatchesWrong)

/-- 'leapfroglaw25.ReadMatches': WHATEVER THE INPUT: true; the input reads as it did. -/
def readMatchesSpec : ChangeSpec := { name := "readMatches", fn := fun _ => fun
  | [d1, d2, d3] => { results := [.lit (.bool true)], args := [d1, d2, d3] }
  | _ => none }
def readMatchesRow : OpenClaim := { program := "ytmafdjhjmnghcaagreat", sum := "440a60d10d63cec2dcbc14a845caa32f65b25298a4bcfa6879991dc5231bd3ec", func := "leapfrog/leapfroglaw25.ReadMatches", spec := "readMatches", inPlace := ["sync/atomic.StoreUint64", "sync/atomic.LoadUint64", "sync/atomic.SwapUint64"], unfollowed := true, recurses := true, apart := false }
def ReadMatchesSaid : Prop := readMatchesRow.holds Tryz.pinned (OpenSpec.ofChange readMatchesSpec)

/-- ITS FALSE NEIGHBOUR: 'it returns false'. Refute it at one input. -/
def readMatchesWrong : ChangeSpec := { name := "readMatches", fn := fun _ => fun
  | [d1, d2, d3] => { results := [.lit (.bool false)], args := [d1, d2, d3] }
  | _ => none }
def ReadMatchesWrongFalsely : Prop := readMatchesRow.holds Tryz.pinned (OpenSpec.ofChange readMatchesWrong)

/- THE SECOND FORM. 'bulk': how many values and letters a reading holds, each counted each time it is reached (what is shared counts as often as it is met; a slice's spare places count too). A statement '..UptoSaid' is the law's where the arguments, and the package variables that the reading takes, are together of bulk at most 1048576: NARROWER than '..Said'. Prove '..Said' where nothing that the law and all that it calls make is longer than what came in: it says more and counts as full. Else prove '..UptoSaid'. A law counts once. -/
mutual
def uptoBulk {H : Type} : DataW H → Nat
  | .lit (.string bytes) => bytes.length + 1
  | .lit _ => 1
  | .nil => 1
  | .ptr d => uptoBulk d + 1
  | .slice elems spare => uptoBulkAll elems + uptoBulkAll spare + 1
  | .agg parts => uptoBulkAll parts + 1
  | .iface _ d => uptoBulk d + 1
  | .map entries => uptoBulkEntries entries + 1
  | .held _ => 1
def uptoBulkAll {H : Type} : List (DataW H) → Nat
  | [] => 0
  | d :: r => uptoBulk d + uptoBulkAll r
def uptoBulkEntries {H : Type} : List (Lit × DataW H) → Nat
  | [] => 0
  | x :: r => uptoBulkEntry x + uptoBulkEntries r
def uptoBulkEntry {H : Type} : Lit × DataW H → Nat
  | (.string bytes, d) => bytes.length + uptoBulk d + 1
  | (_, d) => uptoBulk d + 1
 end
def uptoSmall : (H : Type) → List (DataW H) → Bool := fun _ ds => decide (uptoBulkAll ds ≤ 1048576)
def OpenSpec.upto (s : _root_.Go.ChangeSpec) : _root_.Go.OpenSpec := { _root_.Go.OpenSpec.ofChange s with cond := some uptoSmall }

/-- 'leapfroglaw31.RangesNames', WHERE WHAT IT READS IS OF BULK AT MOST 1048576: true; the input reads as it did. -/
def rangesNamesUptoRow : OpenClaim := { program := "ytmafdjhjmnghcaagreat", sum := "440a60d10d63cec2dcbc14a845caa32f65b25298a4bcfa6879991dc5231bd3ec", func := "leapfrog/leapfroglaw31.RangesNames", spec := "rangesNames", inPlace := ["sync/atomic.LoadUint64", "sync/atomic.CompareAndSwapUint64", "sync/atomic.SwapUint64", "sync/atomic.StoreUint64"], unfollowed := true, recurses := true, apart := false, narrowed := true }
def RangesNamesUptoSaid : Prop := rangesNamesUptoRow.holds Tryz.pinned (OpenSpec.upto rangesNamesSpec)

/-- 'leapfroglaw31.RangesApart', WHERE WHAT IT READS IS OF BULK AT MOST 1048576: true; the input reads as it did. -/
def rangesApartUptoRow : OpenClaim := { program := "ytmafdjhjmnghcaagreat", sum := "440a60d10d63cec2dcbc14a845caa32f65b25298a4bcfa6879991dc5231bd3ec", func := "leapfrog/leapfroglaw31.RangesApart", spec := "rangesApart", inPlace := ["sync/atomic.StoreUint64", "sync/atomic.LoadUint64", "sync/atomic.SwapUint64", "sync/atomic.CompareAndSwapUint64"], unfollowed := true, recurses := true, apart := false, narrowed := true }
def RangesApartUptoSaid : Prop := rangesApartUptoRow.holds Tryz.pinned (OpenSpec.upto rangesApartSpec)

/-- 'leapfroglaw31.RangesQuiet', WHERE WHAT IT READS IS OF BULK AT MOST 1048576: true; the input reads as it did. -/
def rangesQuietUptoRow : OpenClaim := { program := "ytmafdjhjmnghcaagreat", sum := "440a60d10d63cec2dcbc14a845caa32f65b25298a4bcfa6879991dc5231bd3ec", func := "leapfrog/leapfroglaw31.RangesQuiet", spec := "rangesQuiet", inPlace := ["sync/atomic.StoreUint64", "sync/atomic.LoadUint64", "sync/atomic.SwapUint64", "sync/atomic.CompareAndSwapUint64"], unfollowed := true, recurses := true, apart := false, narrowed := true }
def RangesQuietUptoSaid : Prop := rangesQuietUptoRow.holds Tryz.pinned (OpenSpec.upto rangesQuietSpec)

/-- 'leapfroglaw25.ReadNames', WHERE WHAT IT READS IS OF BULK AT MOST 1048576: true; the input reads as it did. -/
def readNamesUptoRow : OpenClaim := { program := "ytmafdjhjmnghcaagreat", sum := "440a60d10d63cec2dcbc14a845caa32f65b25298a4bcfa6879991dc5231bd3ec", func := "leapfrog/leapfroglaw25.ReadNames", spec := "readNames", inPlace := ["sync/atomic.LoadUint64", "sync/atomic.StoreUint64", "sync/atomic.SwapUint64"], unfollowed := true, recurses := true, apart := false, narrowed := true }
def ReadNamesUptoSaid : Prop := readNamesUptoRow.holds Tryz.pinned (OpenSpec.upto readNamesSpec)

/-- 'leapfroglaw25.ReadQuiet', WHERE WHAT IT READS IS OF BULK AT MOST 1048576: true; the input reads as it did. -/
def readQuietUptoRow : OpenClaim := { program := "ytmafdjhjmnghcaagreat", sum := "440a60d10d63cec2dcbc14a845caa32f65b25298a4bcfa6879991dc5231bd3ec", func := "leapfrog/leapfroglaw25.ReadQuiet", spec := "readQuiet", inPlace := ["sync/atomic.StoreUint64", "sync/atomic.LoadUint64", "sync/atomic.SwapUint64"], unfollowed := true, recurses := true, apart := false, narrowed := true }
def ReadQuietUptoSaid : Prop := readQuietUptoRow.holds Tryz.pinned (OpenSpec.upto readQuietSpec)

/-- 'leapfroglaw25.ReadTrue', WHERE WHAT IT READS IS OF BULK AT MOST 1048576: true; the input reads as it did. -/
def readTrueUptoRow : OpenClaim := { program := "ytmafdjhjmnghcaagreat", sum := "440a60d10d63cec2dcbc14a845caa32f65b25298a4bcfa6879991dc5231bd3ec", func := "leapfrog/leapfroglaw25.ReadTrue", spec := "readTrue", inPlace := ["sync/atomic.StoreUint64", "sync/atomic.LoadUint64", "sync/atomic.SwapUint64"], unfollowed := true, recurses := true, apart := false, narrowed := true }
def ReadTrueUptoSaid : Prop := readTrueUptoRow.holds Tryz.pinned (OpenSpec.upto readTrueSpec)

/-- 'leapfroglaw25.ReadFails', WHERE WHAT IT READS IS OF BULK AT MOST 1048576: true; the input reads as it did. -/
def readFailsUptoRow : OpenClaim := { program := "ytmafdjhjmnghcaagreat", sum := "440a60d10d63cec2dcbc14a845caa32f65b25298a4bcfa6879991dc5231bd3ec", func := "leapfrog/leapfroglaw25.ReadFails", spec := "readFails", inPlace := ["sync/atomic.StoreUint64", "sync/atomic.LoadUint64", "sync/atomic.SwapUint64"], unfollowed := true, recurses := true, apart := false, narrowed := true }
def ReadFailsUptoSaid : Prop := readFailsUptoRow.holds Tryz.pinned (OpenSpec.upto readFailsSpec)

/-- 'leapfroglaw31.RangesMatches', WHERE WHAT IT READS IS OF BULK AT MOST 1048576: true; the input reads as it did. -/
def rangesMatchesUptoRow : OpenClaim := { program := "ytmafdjhjmnghcaagreat", sum := "440a60d10d63cec2dcbc14a845caa32f65b25298a4bcfa6879991dc5231bd3ec", func := "leapfrog/leapfroglaw31.RangesMatches", spec := "rangesMatches", inPlace := ["sync/atomic.StoreUint64", "sync/atomic.LoadUint64", "sync/atomic.CompareAndSwapUint64", "sync/atomic.SwapUint64"], unfollowed := true, recurses := true, apart := false, narrowed := true }
def RangesMatchesUptoSaid : Prop := rangesMatchesUptoRow.holds Tryz.pinned (OpenSpec.upto rangesMatchesSpec)

/-- 'leapfroglaw25.ReadMatches', WHERE WHAT IT READS IS OF BULK AT MOST 1048576: true; the input reads as it did. -/
def readMatchesUptoRow : OpenClaim := { program := "ytmafdjhjmnghcaagreat", sum := "440a60d10d63cec2dcbc14a845caa32f65b25298a4bcfa6879991dc5231bd3ec", func := "leapfrog/leapfroglaw25.ReadMatches", spec := "readMatches", inPlace := ["sync/atomic.StoreUint64", "sync/atomic.LoadUint64", "sync/atomic.SwapUint64"], unfollowed := true, recurses := true, apart := false, narrowed := true }
def ReadMatchesUptoSaid : Prop := readMatchesUptoRow.holds Tryz.pinned (OpenSpec.upto readMatchesSpec)

end Rows
end Go.Proofs.YtmafdjhjmnghcaaGreat
