/-
  No cell of these rows narrows 'for every input' (looked for: loops, veiled, ifaces, maps, wideKeys, modest, calm, conditions, laid).
  DERIVED. THE GIVEN ROWS OF THIS SEAT. 10 by the template 'for every input the law returns true; each argument reads behind the call as it read before'; 0 by the template 'total and deterministic' (their statements: YtckopbjejjeknaaTotals.lean).
  GIVEN WITH THE SEED: the statements are not yours to turn. If you find one false, say at which input.
  Laid BY PROGRAM, IN A SANDBOX (cutbox-rows.mjs): the forced cells as the released guide's own fill.sh prints them over the translation 304d3558aa785aad… (all of the seat's roots in one cut). By AI agents, Wed Nov 11 2026. No macro, syntax, notation, axiom, sorry.
-/
import Derived.Test.YtckopbjejjeknaaChecked
import GoSem.Claim
import GoSem.ClaimJoined
import GoSem.ClaimMapViews
import Derived.JoinedTies
import Derived.KernelRfl
namespace Go.Proofs.Ytckopbjejjeknaa
/- THE CELL 'sum', in the pinned program and in every row, IS THE sha256 OF THE DUMP (.gsa) THAT YtckopbjejjeknaaProg.lean LOADS. Nothing in Lean hashes anything: it is a label: what it is worth is what the hold of that sum in a sandbox is worth. -/
noncomputable def Try.pinned : Pinned := { name := "ytckopbjejjeknaa", sum := "304d3558aa785aad9752bb87aba20b6b02c58ae8e4ebcf28833474ebe95eec0c", checked := Try.checked }
namespace Rows
def none {H : Type} : Left H := { results := [], args := [] }

/-- 'leapfroglaw16.FullPlaces': WHATEVER THE INPUT: true; the input reads as it did. -/
def fullPlacesSpec : ChangeSpec := { name := "fullPlaces", fn := fun _ => fun
  | [d1, d2, d3] => { results := [.lit (.bool true)], args := [d1, d2, d3] }
  | _ => none }
def fullPlacesRow : OpenClaim := { program := "ytckopbjejjeknaa", sum := "304d3558aa785aad9752bb87aba20b6b02c58ae8e4ebcf28833474ebe95eec0c", func := "leapfrog/leapfroglaw16.FullPlaces", spec := "fullPlaces", inPlace := ["sync/atomic.StoreUint64", "sync/atomic.LoadUint64"], apart := false }
def FullPlacesSaid : Prop := fullPlacesRow.holds Try.pinned (OpenSpec.ofChange fullPlacesSpec)

/-- ITS FALSE NEIGHBOUR: 'it returns false'. Refute it at one input. -/
def fullPlacesWrong : ChangeSpec := { name := "fullPlaces", fn := fun _ => fun
  | [d1, d2, d3] => { results := [.lit (.bool false)], args := [d1, d2, d3] }
  | _ => none }
def FullPlacesWrongFalsely : Prop := fullPlacesRow.holds Try.pinned (OpenSpec.ofChange fullPlacesWrong)

/-- 'leapfroglaw13.LatchTries': WHATEVER THE INPUT: true; the input reads as it did. -/
def latchTriesSpec : ChangeSpec := { name := "latchTries", fn := fun _ => fun
  | [d1, d2, d3] => { results := [.lit (.bool true)], args := [d1, d2, d3] }
  | _ => none }
def latchTriesRow : OpenClaim := { program := "ytckopbjejjeknaa", sum := "304d3558aa785aad9752bb87aba20b6b02c58ae8e4ebcf28833474ebe95eec0c", func := "leapfrog/leapfroglaw13.LatchTries", spec := "latchTries", inPlace := ["sync/atomic.StoreUint64", "sync/atomic.LoadUint64", "sync/atomic.CompareAndSwapUint64"], unfollowed := true, recurses := true, apart := false }
def LatchTriesSaid : Prop := latchTriesRow.holds Try.pinned (OpenSpec.ofChange latchTriesSpec)

/-- ITS FALSE NEIGHBOUR: 'it returns false'. Refute it at one input. -/
def latchTriesWrong : ChangeSpec := { name := "latchTries", fn := fun _ => fun
  | [d1, d2, d3] => { results := [.lit (.bool false)], args := [d1, d2, d3] }
  | _ => none }
def LatchTriesWrongFalsely : Prop := latchTriesRow.holds Try.pinned (OpenSpec.ofChange latchTriesWrong)

/-- 'leapfroglaw13.LatchExcludes': WHATEVER THE INPUT: true; the input reads as it did. -/
def latchExcludesSpec : ChangeSpec := { name := "latchExcludes", fn := fun _ => fun
  | [d1, d2] => { results := [.lit (.bool true)], args := [d1, d2] }
  | _ => none }
def latchExcludesRow : OpenClaim := { program := "ytckopbjejjeknaa", sum := "304d3558aa785aad9752bb87aba20b6b02c58ae8e4ebcf28833474ebe95eec0c", func := "leapfrog/leapfroglaw13.LatchExcludes", spec := "latchExcludes", inPlace := ["sync/atomic.StoreUint64", "sync/atomic.LoadUint64", "sync/atomic.SwapUint64", "sync/atomic.CompareAndSwapUint64"], unfollowed := true, recurses := true, apart := false }
def LatchExcludesSaid : Prop := latchExcludesRow.holds Try.pinned (OpenSpec.ofChange latchExcludesSpec)

/-- ITS FALSE NEIGHBOUR: 'it returns false'. Refute it at one input. -/
def latchExcludesWrong : ChangeSpec := { name := "latchExcludes", fn := fun _ => fun
  | [d1, d2] => { results := [.lit (.bool false)], args := [d1, d2] }
  | _ => none }
def LatchExcludesWrongFalsely : Prop := latchExcludesRow.holds Try.pinned (OpenSpec.ofChange latchExcludesWrong)

/-- 'leapfroglaw13.LatchExamples': WHATEVER THE INPUT: true; the input reads as it did. -/
def latchExamplesSpec : ChangeSpec := { name := "latchExamples", fn := fun _ => fun
  | [] => { results := [.lit (.bool true)], args := [] }
  | _ => none }
def latchExamplesRow : OpenClaim := { program := "ytckopbjejjeknaa", sum := "304d3558aa785aad9752bb87aba20b6b02c58ae8e4ebcf28833474ebe95eec0c", func := "leapfrog/leapfroglaw13.LatchExamples", spec := "latchExamples", inPlace := ["sync/atomic.StoreUint64", "sync/atomic.LoadUint64", "sync/atomic.CompareAndSwapUint64", "sync/atomic.SwapUint64"], unfollowed := true, recurses := true, apart := false }
def LatchExamplesSaid : Prop := latchExamplesRow.holds Try.pinned (OpenSpec.ofChange latchExamplesSpec)

/-- ITS FALSE NEIGHBOUR: 'it returns false'. Refute it at one input. -/
def latchExamplesWrong : ChangeSpec := { name := "latchExamples", fn := fun _ => fun
  | [] => { results := [.lit (.bool false)], args := [] }
  | _ => none }
def LatchExamplesWrongFalsely : Prop := latchExamplesRow.holds Try.pinned (OpenSpec.ofChange latchExamplesWrong)

/-- 'leapfroglaw13.LatchSteps': WHATEVER THE INPUT: true; the input reads as it did. -/
def latchStepsSpec : ChangeSpec := { name := "latchSteps", fn := fun _ => fun
  | [d1, d2] => { results := [.lit (.bool true)], args := [d1, d2] }
  | _ => none }
def latchStepsRow : OpenClaim := { program := "ytckopbjejjeknaa", sum := "304d3558aa785aad9752bb87aba20b6b02c58ae8e4ebcf28833474ebe95eec0c", func := "leapfrog/leapfroglaw13.LatchSteps", spec := "latchSteps", inPlace := ["sync/atomic.StoreUint64", "sync/atomic.LoadUint64", "sync/atomic.CompareAndSwapUint64", "sync/atomic.SwapUint64"], unfollowed := true, recurses := true, apart := false }
def LatchStepsSaid : Prop := latchStepsRow.holds Try.pinned (OpenSpec.ofChange latchStepsSpec)

/-- ITS FALSE NEIGHBOUR: 'it returns false'. Refute it at one input. -/
def latchStepsWrong : ChangeSpec := { name := "latchSteps", fn := fun _ => fun
  | [d1, d2] => { results := [.lit (.bool false)], args := [d1, d2] }
  | _ => none }
def LatchStepsWrongFalsely : Prop := latchStepsRow.holds Try.pinned (OpenSpec.ofChange latchStepsWrong)

/-- 'leapfroglaw16.FullProgress': WHATEVER THE INPUT: true; the input reads as it did. -/
def fullProgressSpec : ChangeSpec := { name := "fullProgress", fn := fun _ => fun
  | [d1, d2, d3, d4] => { results := [.lit (.bool true)], args := [d1, d2, d3, d4] }
  | _ => none }
def fullProgressRow : OpenClaim := { program := "ytckopbjejjeknaa", sum := "304d3558aa785aad9752bb87aba20b6b02c58ae8e4ebcf28833474ebe95eec0c", func := "leapfrog/leapfroglaw16.FullProgress", spec := "fullProgress", inPlace := ["sync/atomic.StoreUint64", "sync/atomic.LoadUint64", "sync/atomic.SwapUint64"], unfollowed := true, recurses := true, apart := false }
def FullProgressSaid : Prop := fullProgressRow.holds Try.pinned (OpenSpec.ofChange fullProgressSpec)

/-- ITS FALSE NEIGHBOUR: 'it returns false'. Refute it at one input. -/
def fullProgressWrong : ChangeSpec := { name := "fullProgress", fn := fun _ => fun
  | [d1, d2, d3, d4] => { results := [.lit (.bool false)], args := [d1, d2, d3, d4] }
  | _ => none }
def FullProgressWrongFalsely : Prop := fullProgressRow.holds Try.pinned (OpenSpec.ofChange fullProgressWrong)

/-- 'leapfroglaw16.FullLater': WHATEVER THE INPUT: true; the input reads as it did. -/
def fullLaterSpec : ChangeSpec := { name := "fullLater", fn := fun _ => fun
  | [d1, d2] => { results := [.lit (.bool true)], args := [d1, d2] }
  | _ => none }
def fullLaterRow : OpenClaim := { program := "ytckopbjejjeknaa", sum := "304d3558aa785aad9752bb87aba20b6b02c58ae8e4ebcf28833474ebe95eec0c", func := "leapfrog/leapfroglaw16.FullLater", spec := "fullLater", inPlace := ["sync/atomic.StoreUint64", "sync/atomic.LoadUint64", "sync/atomic.SwapUint64"], unfollowed := true, recurses := true, apart := false }
def FullLaterSaid : Prop := fullLaterRow.holds Try.pinned (OpenSpec.ofChange fullLaterSpec)

/-- ITS FALSE NEIGHBOUR: 'it returns false'. Refute it at one input. -/
def fullLaterWrong : ChangeSpec := { name := "fullLater", fn := fun _ => fun
  | [d1, d2] => { results := [.lit (.bool false)], args := [d1, d2] }
  | _ => none }
def FullLaterWrongFalsely : Prop := fullLaterRow.holds Try.pinned (OpenSpec.ofChange fullLaterWrong)

/-- 'leapfroglaw16.FullGrace': WHATEVER THE INPUT: true; the input reads as it did. -/
def fullGraceSpec : ChangeSpec := { name := "fullGrace", fn := fun _ => fun
  | [d1, d2] => { results := [.lit (.bool true)], args := [d1, d2] }
  | _ => none }
def fullGraceRow : OpenClaim := { program := "ytckopbjejjeknaa", sum := "304d3558aa785aad9752bb87aba20b6b02c58ae8e4ebcf28833474ebe95eec0c", func := "leapfrog/leapfroglaw16.FullGrace", spec := "fullGrace", inPlace := ["sync/atomic.StoreUint64", "sync/atomic.LoadUint64", "sync/atomic.SwapUint64"], unfollowed := true, recurses := true, apart := false }
def FullGraceSaid : Prop := fullGraceRow.holds Try.pinned (OpenSpec.ofChange fullGraceSpec)

/-- ITS FALSE NEIGHBOUR: 'it returns false'. Refute it at one input. -/
def fullGraceWrong : ChangeSpec := { name := "fullGrace", fn := fun _ => fun
  | [d1, d2] => { results := [.lit (.bool false)], args := [d1, d2] }
  | _ => none }
def FullGraceWrongFalsely : Prop := fullGraceRow.holds Try.pinned (OpenSpec.ofChange fullGraceWrong)

/-- 'leapfroglaw16.FullExamples': WHATEVER THE INPUT: true; the input reads as it did. -/
def fullExamplesSpec : ChangeSpec := { name := "fullExamples", fn := fun _ => fun
  | [] => { results := [.lit (.bool true)], args := [] }
  | _ => none }
def fullExamplesRow : OpenClaim := { program := "ytckopbjejjeknaa", sum := "304d3558aa785aad9752bb87aba20b6b02c58ae8e4ebcf28833474ebe95eec0c", func := "leapfrog/leapfroglaw16.FullExamples", spec := "fullExamples", inPlace := ["sync/atomic.StoreUint64", "sync/atomic.LoadUint64", "sync/atomic.SwapUint64"], unfollowed := true, recurses := true, apart := false }
def FullExamplesSaid : Prop := fullExamplesRow.holds Try.pinned (OpenSpec.ofChange fullExamplesSpec)

/-- ITS FALSE NEIGHBOUR: 'it returns false'. Refute it at one input. -/
def fullExamplesWrong : ChangeSpec := { name := "fullExamples", fn := fun _ => fun
  | [] => { results := [.lit (.bool false)], args := [] }
  | _ => none }
def FullExamplesWrongFalsely : Prop := fullExamplesRow.holds Try.pinned (OpenSpec.ofChange fullExamplesWrong)

/-- 'leapfroglaw16.FullSteps': WHATEVER THE INPUT: true; the input reads as it did. -/
def fullStepsSpec : ChangeSpec := { name := "fullSteps", fn := fun _ => fun
  | [d1, d2, d3] => { results := [.lit (.bool true)], args := [d1, d2, d3] }
  | _ => none }
def fullStepsRow : OpenClaim := { program := "ytckopbjejjeknaa", sum := "304d3558aa785aad9752bb87aba20b6b02c58ae8e4ebcf28833474ebe95eec0c", func := "leapfrog/leapfroglaw16.FullSteps", spec := "fullSteps", inPlace := ["sync/atomic.StoreUint64", "sync/atomic.LoadUint64", "sync/atomic.SwapUint64"], unfollowed := true, recurses := true, apart := false }
def FullStepsSaid : Prop := fullStepsRow.holds Try.pinned (OpenSpec.ofChange fullStepsSpec)

/-- ITS FALSE NEIGHBOUR: 'it returns false'. Refute it at one input. -/
def fullStepsWrong : ChangeSpec := { name := "fullSteps", fn := fun _ => fun
  | [d1, d2, d3] => { results := [.lit (.bool false)], args := [d1, d2, d3] }
  | _ => none }
def FullStepsWrongFalsely : Prop := fullStepsRow.holds Try.pinned (OpenSpec.ofChange fullStepsWrong)

/- THE SECOND FORM. 'bulk': how many values and letters a reading holds, each counted each time it is reached (what is shared counts as often as it is met; a slice's spare places count too). A statement '..UptoSaid' is the law's where the arguments, and the package variables that the reading takes, are together of bulk at most 1048576: NARROWER than '..Said'. Prove '..Said' where nothing that the law and all that it calls make is longer than what came in: it says more and counts as full. Else prove '..UptoSaid'. A law counts once. -/
mutual
def uptoBulk {H : Type} : DataW H → Nat
  | .lit (.string bytes) => bytes.length + 1
  | .lit _ => 1
  | .nil => 1
  | .ptr d => uptoBulk d + 1
  | .slice elems spare => uptoBulkAll elems + uptoBulkAll spare + 1
  | .agg parts => uptoBulkAll parts + 1
  | .iface _ d => uptoBulk d + 1
  | .map entries => uptoBulkEntries entries + 1
  | .held _ => 1
def uptoBulkAll {H : Type} : List (DataW H) → Nat
  | [] => 0
  | d :: r => uptoBulk d + uptoBulkAll r
def uptoBulkEntries {H : Type} : List (Lit × DataW H) → Nat
  | [] => 0
  | x :: r => uptoBulkEntry x + uptoBulkEntries r
def uptoBulkEntry {H : Type} : Lit × DataW H → Nat
  | (.string bytes, d) => bytes.length + uptoBulk d + 1
  | (_, d) => uptoBulk d + 1
 end
def uptoSmall : (H : Type) → List (DataW H) → Bool := fun _ ds => decide (uptoBulkAll ds ≤ 1048576)
def OpenSpec.upto (s : _root_.Go.ChangeSpec) : _root_.Go.OpenSpec := { _root_.Go.OpenSpec.ofChange s with cond := some uptoSmall }

/-- 'leapfroglaw16.FullPlaces', WHERE WHAT IT READS IS OF BULK AT MOST 1048576: true; the input reads as it did. -/
def fullPlacesUptoRow : OpenClaim := { program := "ytckopbjejjeknaa", sum := "304d3558aa785aad9752bb87aba20b6b02c58ae8e4ebcf28833474ebe95eec0c", func := "leapfrog/leapfroglaw16.FullPlaces", spec := "fullPlaces", inPlace := ["sync/atomic.StoreUint64", "sync/atomic.LoadUint64"], apart := false, narrowed := true }
def FullPlacesUptoSaid : Prop := fullPlacesUptoRow.holds Try.pinned (OpenSpec.upto fullPlacesSpec)

/-- 'leapfroglaw13.LatchTries', WHERE WHAT IT READS IS OF BULK AT MOST 1048576: true; the input reads as it did. -/
def latchTriesUptoRow : OpenClaim := { program := "ytckopbjejjeknaa", sum := "304d3558aa785aad9752bb87aba20b6b02c58ae8e4ebcf28833474ebe95eec0c", func := "leapfrog/leapfroglaw13.LatchTries", spec := "latchTries", inPlace := ["sync/atomic.StoreUint64", "sync/atomic.LoadUint64", "sync/atomic.CompareAndSwapUint64"], unfollowed := true, recurses := true, apart := false, narrowed := true }
def LatchTriesUptoSaid : Prop := latchTriesUptoRow.holds Try.pinned (OpenSpec.upto latchTriesSpec)

/-- 'leapfroglaw13.LatchExcludes', WHERE WHAT IT READS IS OF BULK AT MOST 1048576: true; the input reads as it did. -/
def latchExcludesUptoRow : OpenClaim := { program := "ytckopbjejjeknaa", sum := "304d3558aa785aad9752bb87aba20b6b02c58ae8e4ebcf28833474ebe95eec0c", func := "leapfrog/leapfroglaw13.LatchExcludes", spec := "latchExcludes", inPlace := ["sync/atomic.StoreUint64", "sync/atomic.LoadUint64", "sync/atomic.SwapUint64", "sync/atomic.CompareAndSwapUint64"], unfollowed := true, recurses := true, apart := false, narrowed := true }
def LatchExcludesUptoSaid : Prop := latchExcludesUptoRow.holds Try.pinned (OpenSpec.upto latchExcludesSpec)

/-- 'leapfroglaw13.LatchExamples', WHERE WHAT IT READS IS OF BULK AT MOST 1048576: true; the input reads as it did. -/
def latchExamplesUptoRow : OpenClaim := { program := "ytckopbjejjeknaa", sum := "304d3558aa785aad9752bb87aba20b6b02c58ae8e4ebcf28833474ebe95eec0c", func := "leapfrog/leapfroglaw13.LatchExamples", spec := "latchExamples", inPlace := ["sync/atomic.StoreUint64", "sync/atomic.LoadUint64", "sync/atomic.CompareAndSwapUint64", "sync/atomic.SwapUint64"], unfollowed := true, recurses := true, apart := false, narrowed := true }
def LatchExamplesUptoSaid : Prop := latchExamplesUptoRow.holds Try.pinned (OpenSpec.upto latchExamplesSpec)

/-- 'leapfroglaw13.LatchSteps', WHERE WHAT IT READS IS OF BULK AT MOST 1048576: true; the input reads as it did. -/
def latchStepsUptoRow : OpenClaim := { program := "ytckopbjejjeknaa", sum := "304d3558aa785aad9752bb87aba20b6b02c58ae8e4ebcf28833474ebe95eec0c", func := "leapfrog/leapfroglaw13.LatchSteps", spec := "latchSteps", inPlace := ["sync/atomic.StoreUint64", "sync/atomic.LoadUint64", "sync/atomic.CompareAndSwapUint64", "sync/atomic.SwapUint64"], unfollowed := true, recurses := true, apart := false, narrowed := true }
def LatchStepsUptoSaid : Prop := latchStepsUptoRow.holds Try.pinned (OpenSpec.upto latchStepsSpec)

/-- 'leapfroglaw16.FullProgress', WHERE WHAT IT READS IS OF BULK AT MOST 1048576: true; the input reads as it did. -/
def fullProgressUptoRow : OpenClaim := { program := "ytckopbjejjeknaa", sum := "304d3558aa785aad9752bb87aba20b6b02c58ae8e4ebcf28833474ebe95eec0c", func := "leapfrog/leapfroglaw16.FullProgress", spec := "fullProgress", inPlace := ["sync/atomic.StoreUint64", "sync/atomic.LoadUint64", "sync/atomic.SwapUint64"], unfollowed := true, recurses := true, apart := false, narrowed := true }
def FullProgressUptoSaid : Prop := fullProgressUptoRow.holds Try.pinned (OpenSpec.upto fullProgressSpec)

/-- 'leapfroglaw16.FullLater', WHERE WHAT IT READS IS OF BULK AT MOST 1048576: true; the input reads as it did. -/
def fullLaterUptoRow : OpenClaim := { program := "ytckopbjejjeknaa", sum := "304d3558aa785aad9752bb87aba20b6b02c58ae8e4ebcf28833474ebe95eec0c", func := "leapfrog/leapfroglaw16.FullLater", spec := "fullLater", inPlace := ["sync/atomic.StoreUint64", "sync/atomic.LoadUint64", "sync/atomic.SwapUint64"], unfollowed := true, recurses := true, apart := false, narrowed := true }
def FullLaterUptoSaid : Prop := fullLaterUptoRow.holds Try.pinned (OpenSpec.upto fullLaterSpec)

/-- 'leapfroglaw16.FullGrace', WHERE WHAT IT READS IS OF BULK AT MOST 1048576: true; the input reads as it did. -/
def fullGraceUptoRow : OpenClaim := { program := "ytckopbjejjeknaa", sum := "304d3558aa785aad9752bb87aba20b6b02c58ae8e4ebcf28833474ebe95eec0c", func := "leapfrog/leapfroglaw16.FullGrace", spec := "fullGrace", inPlace := ["sync/atomic.StoreUint64", "sync/atomic.LoadUint64", "sync/atomic.SwapUint64"], unfollowed := true, recurses := true, apart := false, narrowed := true }
def FullGraceUptoSaid : Prop := fullGraceUptoRow.holds Try.pinned (OpenSpec.upto fullGraceSpec)

/-- 'leapfroglaw16.FullExamples', WHERE WHAT IT READS IS OF BULK AT MOST 1048576: true; the input reads as it did. -/
def fullExamplesUptoRow : OpenClaim := { program := "ytckopbjejjeknaa", sum := "304d3558aa785aad9752bb87aba20b6b02c58ae8e4ebcf28833474ebe95eec0c", func := "leapfrog/leapfroglaw16.FullExamples", spec := "fullExamples", inPlace := ["sync/atomic.StoreUint64", "sync/atomic.LoadUint64", "sync/atomic.SwapUint64"], unfollowed := true, recurses := true, apart := false, narrowed := true }
def FullExamplesUptoSaid : Prop := fullExamplesUptoRow.holds Try.pinned (OpenSpec.upto fullExamplesSpec)

/-- 'leapfroglaw16.FullSteps', WHERE WHAT IT READS IS OF BULK AT MOST 1048576: true; the input reads as it did. -/
def fullStepsUptoRow : OpenClaim := { program := "ytckopbjejjeknaa", sum := "304d3558aa785aad9752bb87aba20b6b02c58ae8e4ebcf28833474ebe95eec0c", func := "leapfrog/leapfroglaw16.FullSteps", spec := "fullSteps", inPlace := ["sync/atomic.StoreUint64", "sync/atomic.LoadUint64", "sync/atomic.SwapUint64"], unfollowed := true, recurses := true, apart := false, narrowed := true }
def FullStepsUptoSaid : Prop := fullStepsUptoRow.holds Try.pinned (OpenSpec.upto fullStepsSpec)

end Rows
end Go.Proofs.Ytckopbjejjeknaa
