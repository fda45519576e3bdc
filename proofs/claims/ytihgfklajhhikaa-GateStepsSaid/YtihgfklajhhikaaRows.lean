/-
  No cell of these rows narrows 'for every input' (looked for: loops, veiled, ifaces, maps, wideKeys, modest, calm, conditions, laid).
  DERIVED. THE GIVEN ROWS OF THIS SEAT. 12 by the template 'for every input the law returns true; each argument reads behind the call as it read before'; 0 by the template 'total and deterministic' (their statements: YtihgfklajhhikaaTotals.lean).
  GIVEN WITH THE SEED: the statements are not yours to turn. If you find one false, say at which input.
  Laid BY PROGRAM, IN A SANDBOX (cutbox-rows.mjs): the forced cells as the released guide's own fill.sh prints them over the translation 19c99b61d19d2268… (all of the seat's roots in one cut). By AI agents, Wed Nov 11 2026. No macro, syntax, notation, axiom, sorry.
-/
import Derived.Test.YtihgfklajhhikaaChecked
import GoSem.Claim
import GoSem.ClaimJoined
import GoSem.ClaimMapViews
import Derived.JoinedTies
import Derived.KernelRfl
namespace Go.Proofs.Ytihgfklajhhikaa
/- THE CELL 'sum', in the pinned program and in every row, IS THE sha256 OF THE DUMP (.gsa) THAT YtihgfklajhhikaaProg.lean LOADS. Nothing in Lean hashes anything: it is a label: what it is worth is what the hold of that sum in a sandbox is worth. -/
noncomputable def Try.pinned : Pinned := { name := "ytihgfklajhhikaa", sum := "19c99b61d19d2268ff8607b9e6bd8fff96569a325a634ef2143fa535350268c5", checked := Try.checked }
namespace Rows
def none {H : Type} : Left H := { results := [], args := [] }

/-- 'leapfroglaw18.GatePlaces': WHATEVER THE INPUT: true; the input reads as it did. -/
def gatePlacesSpec : ChangeSpec := { name := "gatePlaces", fn := fun _ => fun
  | [d1, d2, d3] => { results := [.lit (.bool true)], args := [d1, d2, d3] }
  | _ => none }
def gatePlacesRow : OpenClaim := { program := "ytihgfklajhhikaa", sum := "19c99b61d19d2268ff8607b9e6bd8fff96569a325a634ef2143fa535350268c5", func := "leapfrog/leapfroglaw18.GatePlaces", spec := "gatePlaces", inPlace := ["sync/atomic.StoreUint64", "sync/atomic.LoadUint64"], apart := false }
def GatePlacesSaid : Prop := gatePlacesRow.holds Try.pinned (OpenSpec.ofChange gatePlacesSpec)

/-- ITS FALSE NEIGHBOUR: 'it returns false'. Refute it at one input. -/
def gatePlacesWrong : ChangeSpec := { name := "gatePlaces", fn := fun _ => fun
  | [d1, d2, d3] => { results := [.lit (.bool false)], args := [d1, d2, d3] }
  | _ => none }
def GatePlacesWrongFalsely : Prop := gatePlacesRow.holds Try.pinned (OpenSpec.ofChange gatePlacesWrong)

/-- 'leapfroglaw17.EachPlaces': WHATEVER THE INPUT: true; the input reads as it did. -/
def eachPlacesSpec : ChangeSpec := { name := "eachPlaces", fn := fun _ => fun
  | [d1, d2, d3] => { results := [.lit (.bool true)], args := [d1, d2, d3] }
  | _ => none }
def eachPlacesRow : OpenClaim := { program := "ytihgfklajhhikaa", sum := "19c99b61d19d2268ff8607b9e6bd8fff96569a325a634ef2143fa535350268c5", func := "leapfrog/leapfroglaw17.EachPlaces", spec := "eachPlaces", inPlace := ["sync/atomic.StoreUint64", "sync/atomic.LoadUint64"], apart := false }
def EachPlacesSaid : Prop := eachPlacesRow.holds Try.pinned (OpenSpec.ofChange eachPlacesSpec)

/-- ITS FALSE NEIGHBOUR: 'it returns false'. Refute it at one input. -/
def eachPlacesWrong : ChangeSpec := { name := "eachPlaces", fn := fun _ => fun
  | [d1, d2, d3] => { results := [.lit (.bool false)], args := [d1, d2, d3] }
  | _ => none }
def EachPlacesWrongFalsely : Prop := eachPlacesRow.holds Try.pinned (OpenSpec.ofChange eachPlacesWrong)

/-- 'leapfroglaw17.EachProgress': WHATEVER THE INPUT: true; the input reads as it did. -/
def eachProgressSpec : ChangeSpec := { name := "eachProgress", fn := fun _ => fun
  | [d1, d2, d3, d4] => { results := [.lit (.bool true)], args := [d1, d2, d3, d4] }
  | _ => none }
def eachProgressRow : OpenClaim := { program := "ytihgfklajhhikaa", sum := "19c99b61d19d2268ff8607b9e6bd8fff96569a325a634ef2143fa535350268c5", func := "leapfrog/leapfroglaw17.EachProgress", spec := "eachProgress", inPlace := ["sync/atomic.StoreUint64", "sync/atomic.LoadUint64", "sync/atomic.SwapUint64"], unfollowed := true, recurses := true, apart := false }
def EachProgressSaid : Prop := eachProgressRow.holds Try.pinned (OpenSpec.ofChange eachProgressSpec)

/-- ITS FALSE NEIGHBOUR: 'it returns false'. Refute it at one input. -/
def eachProgressWrong : ChangeSpec := { name := "eachProgress", fn := fun _ => fun
  | [d1, d2, d3, d4] => { results := [.lit (.bool false)], args := [d1, d2, d3, d4] }
  | _ => none }
def EachProgressWrongFalsely : Prop := eachProgressRow.holds Try.pinned (OpenSpec.ofChange eachProgressWrong)

/-- 'leapfroglaw17.EachIgnores': WHATEVER THE INPUT: true; the input reads as it did. -/
def eachIgnoresSpec : ChangeSpec := { name := "eachIgnores", fn := fun _ => fun
  | [d1, d2] => { results := [.lit (.bool true)], args := [d1, d2] }
  | _ => none }
def eachIgnoresRow : OpenClaim := { program := "ytihgfklajhhikaa", sum := "19c99b61d19d2268ff8607b9e6bd8fff96569a325a634ef2143fa535350268c5", func := "leapfrog/leapfroglaw17.EachIgnores", spec := "eachIgnores", inPlace := ["sync/atomic.StoreUint64", "sync/atomic.LoadUint64", "sync/atomic.SwapUint64"], unfollowed := true, recurses := true, apart := false }
def EachIgnoresSaid : Prop := eachIgnoresRow.holds Try.pinned (OpenSpec.ofChange eachIgnoresSpec)

/-- ITS FALSE NEIGHBOUR: 'it returns false'. Refute it at one input. -/
def eachIgnoresWrong : ChangeSpec := { name := "eachIgnores", fn := fun _ => fun
  | [d1, d2] => { results := [.lit (.bool false)], args := [d1, d2] }
  | _ => none }
def EachIgnoresWrongFalsely : Prop := eachIgnoresRow.holds Try.pinned (OpenSpec.ofChange eachIgnoresWrong)

/-- 'leapfroglaw17.EachGrace': WHATEVER THE INPUT: true; the input reads as it did. -/
def eachGraceSpec : ChangeSpec := { name := "eachGrace", fn := fun _ => fun
  | [d1, d2] => { results := [.lit (.bool true)], args := [d1, d2] }
  | _ => none }
def eachGraceRow : OpenClaim := { program := "ytihgfklajhhikaa", sum := "19c99b61d19d2268ff8607b9e6bd8fff96569a325a634ef2143fa535350268c5", func := "leapfrog/leapfroglaw17.EachGrace", spec := "eachGrace", inPlace := ["sync/atomic.StoreUint64", "sync/atomic.LoadUint64", "sync/atomic.SwapUint64"], unfollowed := true, recurses := true, apart := false }
def EachGraceSaid : Prop := eachGraceRow.holds Try.pinned (OpenSpec.ofChange eachGraceSpec)

/-- ITS FALSE NEIGHBOUR: 'it returns false'. Refute it at one input. -/
def eachGraceWrong : ChangeSpec := { name := "eachGrace", fn := fun _ => fun
  | [d1, d2] => { results := [.lit (.bool false)], args := [d1, d2] }
  | _ => none }
def EachGraceWrongFalsely : Prop := eachGraceRow.holds Try.pinned (OpenSpec.ofChange eachGraceWrong)

/-- 'leapfroglaw17.EachExamples': WHATEVER THE INPUT: true; the input reads as it did. -/
def eachExamplesSpec : ChangeSpec := { name := "eachExamples", fn := fun _ => fun
  | [] => { results := [.lit (.bool true)], args := [] }
  | _ => none }
def eachExamplesRow : OpenClaim := { program := "ytihgfklajhhikaa", sum := "19c99b61d19d2268ff8607b9e6bd8fff96569a325a634ef2143fa535350268c5", func := "leapfrog/leapfroglaw17.EachExamples", spec := "eachExamples", inPlace := ["sync/atomic.StoreUint64", "sync/atomic.LoadUint64", "sync/atomic.SwapUint64"], unfollowed := true, recurses := true, apart := false }
def EachExamplesSaid : Prop := eachExamplesRow.holds Try.pinned (OpenSpec.ofChange eachExamplesSpec)

/-- ITS FALSE NEIGHBOUR: 'it returns false'. Refute it at one input. -/
def eachExamplesWrong : ChangeSpec := { name := "eachExamples", fn := fun _ => fun
  | [] => { results := [.lit (.bool false)], args := [] }
  | _ => none }
def EachExamplesWrongFalsely : Prop := eachExamplesRow.holds Try.pinned (OpenSpec.ofChange eachExamplesWrong)

/-- 'leapfroglaw17.EachSteps': WHATEVER THE INPUT: true; the input reads as it did. -/
def eachStepsSpec : ChangeSpec := { name := "eachSteps", fn := fun _ => fun
  | [d1, d2, d3] => { results := [.lit (.bool true)], args := [d1, d2, d3] }
  | _ => none }
def eachStepsRow : OpenClaim := { program := "ytihgfklajhhikaa", sum := "19c99b61d19d2268ff8607b9e6bd8fff96569a325a634ef2143fa535350268c5", func := "leapfrog/leapfroglaw17.EachSteps", spec := "eachSteps", inPlace := ["sync/atomic.StoreUint64", "sync/atomic.LoadUint64", "sync/atomic.SwapUint64"], unfollowed := true, recurses := true, apart := false }
def EachStepsSaid : Prop := eachStepsRow.holds Try.pinned (OpenSpec.ofChange eachStepsSpec)

/-- ITS FALSE NEIGHBOUR: 'it returns false'. Refute it at one input. -/
def eachStepsWrong : ChangeSpec := { name := "eachSteps", fn := fun _ => fun
  | [d1, d2, d3] => { results := [.lit (.bool false)], args := [d1, d2, d3] }
  | _ => none }
def EachStepsWrongFalsely : Prop := eachStepsRow.holds Try.pinned (OpenSpec.ofChange eachStepsWrong)

/-- 'leapfroglaw18.GateProgress': WHATEVER THE INPUT: true; the input reads as it did. -/
def gateProgressSpec : ChangeSpec := { name := "gateProgress", fn := fun _ => fun
  | [d1, d2, d3, d4] => { results := [.lit (.bool true)], args := [d1, d2, d3, d4] }
  | _ => none }
def gateProgressRow : OpenClaim := { program := "ytihgfklajhhikaa", sum := "19c99b61d19d2268ff8607b9e6bd8fff96569a325a634ef2143fa535350268c5", func := "leapfrog/leapfroglaw18.GateProgress", spec := "gateProgress", inPlace := ["sync/atomic.StoreUint64", "sync/atomic.LoadUint64", "sync/atomic.AddUint64", "sync/atomic.CompareAndSwapUint64", "sync/atomic.SwapUint64"], unfollowed := true, recurses := true, apart := false }
def GateProgressSaid : Prop := gateProgressRow.holds Try.pinned (OpenSpec.ofChange gateProgressSpec)

/-- ITS FALSE NEIGHBOUR: 'it returns false'. Refute it at one input. -/
def gateProgressWrong : ChangeSpec := { name := "gateProgress", fn := fun _ => fun
  | [d1, d2, d3, d4] => { results := [.lit (.bool false)], args := [d1, d2, d3, d4] }
  | _ => none }
def GateProgressWrongFalsely : Prop := gateProgressRow.holds Try.pinned (OpenSpec.ofChange gateProgressWrong)

/-- 'leapfroglaw18.GateCounts': WHATEVER THE INPUT: true; the input reads as it did. -/
def gateCountsSpec : ChangeSpec := { name := "gateCounts", fn := fun _ => fun
  | [d1, d2] => { results := [.lit (.bool true)], args := [d1, d2] }
  | _ => none }
def gateCountsRow : OpenClaim := { program := "ytihgfklajhhikaa", sum := "19c99b61d19d2268ff8607b9e6bd8fff96569a325a634ef2143fa535350268c5", func := "leapfrog/leapfroglaw18.GateCounts", spec := "gateCounts", inPlace := ["sync/atomic.StoreUint64", "sync/atomic.LoadUint64", "sync/atomic.AddUint64", "sync/atomic.CompareAndSwapUint64", "sync/atomic.SwapUint64"], unfollowed := true, recurses := true, apart := false }
def GateCountsSaid : Prop := gateCountsRow.holds Try.pinned (OpenSpec.ofChange gateCountsSpec)

/-- ITS FALSE NEIGHBOUR: 'it returns false'. Refute it at one input. -/
def gateCountsWrong : ChangeSpec := { name := "gateCounts", fn := fun _ => fun
  | [d1, d2] => { results := [.lit (.bool false)], args := [d1, d2] }
  | _ => none }
def GateCountsWrongFalsely : Prop := gateCountsRow.holds Try.pinned (OpenSpec.ofChange gateCountsWrong)

/-- 'leapfroglaw18.GateGrace': WHATEVER THE INPUT: true; the input reads as it did. -/
def gateGraceSpec : ChangeSpec := { name := "gateGrace", fn := fun _ => fun
  | [d1, d2] => { results := [.lit (.bool true)], args := [d1, d2] }
  | _ => none }
def gateGraceRow : OpenClaim := { program := "ytihgfklajhhikaa", sum := "19c99b61d19d2268ff8607b9e6bd8fff96569a325a634ef2143fa535350268c5", func := "leapfrog/leapfroglaw18.GateGrace", spec := "gateGrace", inPlace := ["sync/atomic.StoreUint64", "sync/atomic.LoadUint64", "sync/atomic.AddUint64", "sync/atomic.CompareAndSwapUint64", "sync/atomic.SwapUint64"], unfollowed := true, recurses := true, apart := false }
def GateGraceSaid : Prop := gateGraceRow.holds Try.pinned (OpenSpec.ofChange gateGraceSpec)

/-- ITS FALSE NEIGHBOUR: 'it returns false'. Refute it at one input. -/
def gateGraceWrong : ChangeSpec := { name := "gateGrace", fn := fun _ => fun
  | [d1, d2] => { results := [.lit (.bool false)], args := [d1, d2] }
  | _ => none }
def GateGraceWrongFalsely : Prop := gateGraceRow.holds Try.pinned (OpenSpec.ofChange gateGraceWrong)

/-- 'leapfroglaw18.GateExamples': WHATEVER THE INPUT: true; the input reads as it did. -/
def gateExamplesSpec : ChangeSpec := { name := "gateExamples", fn := fun _ => fun
  | [] => { results := [.lit (.bool true)], args := [] }
  | _ => none }
def gateExamplesRow : OpenClaim := { program := "ytihgfklajhhikaa", sum := "19c99b61d19d2268ff8607b9e6bd8fff96569a325a634ef2143fa535350268c5", func := "leapfrog/leapfroglaw18.GateExamples", spec := "gateExamples", inPlace := ["sync/atomic.StoreUint64", "sync/atomic.LoadUint64", "sync/atomic.AddUint64", "sync/atomic.CompareAndSwapUint64", "sync/atomic.SwapUint64"], unfollowed := true, recurses := true, apart := false }
def GateExamplesSaid : Prop := gateExamplesRow.holds Try.pinned (OpenSpec.ofChange gateExamplesSpec)

/-- ITS FALSE NEIGHBOUR: 'it returns false'. Refute it at one input. -/
def gateExamplesWrong : ChangeSpec := { name := "gateExamples", fn := fun _ => fun
  | [] => { results := [.lit (.bool false)], args := [] }
  | _ => none }
def GateExamplesWrongFalsely : Prop := gateExamplesRow.holds Try.pinned (OpenSpec.ofChange gateExamplesWrong)

/-- 'leapfroglaw18.GateSteps': WHATEVER THE INPUT: true; the input reads as it did. -/
def gateStepsSpec : ChangeSpec := { name := "gateSteps", fn := fun _ => fun
  | [d1, d2, d3] => { results := [.lit (.bool true)], args := [d1, d2, d3] }
  | _ => none }
def gateStepsRow : OpenClaim := { program := "ytihgfklajhhikaa", sum := "19c99b61d19d2268ff8607b9e6bd8fff96569a325a634ef2143fa535350268c5", func := "leapfrog/leapfroglaw18.GateSteps", spec := "gateSteps", inPlace := ["sync/atomic.StoreUint64", "sync/atomic.LoadUint64", "sync/atomic.AddUint64", "sync/atomic.CompareAndSwapUint64", "sync/atomic.SwapUint64"], unfollowed := true, recurses := true, apart := false }
def GateStepsSaid : Prop := gateStepsRow.holds Try.pinned (OpenSpec.ofChange gateStepsSpec)

/-- ITS FALSE NEIGHBOUR: 'it returns false'. Refute it at one input. -/
def gateStepsWrong : ChangeSpec := { name := "gateSteps", fn := fun _ => fun
  | [d1, d2, d3] => { results := [.lit (.bool false)], args := [d1, d2, d3] }
  | _ => none }
def GateStepsWrongFalsely : Prop := gateStepsRow.holds Try.pinned (OpenSpec.ofChange gateStepsWrong)

/- THE SECOND FORM. 'bulk': how many values and letters a reading holds, each counted each time it is reached (what is shared counts as often as it is met; a slice's spare places count too). A statement '..UptoSaid' is the law's where the arguments, and the package variables that the reading takes, are together of bulk at most 1048576: NARROWER than '..Said'. Prove '..Said' where nothing that the law and all that it calls make is longer than what came in: it says more and counts as full. Else prove '..UptoSaid'. A law counts once. -/
mutual
def uptoBulk {H : Type} : DataW H → Nat
  | .lit (.string bytes) => bytes.length + 1
  | .lit _ => 1
  | .nil => 1
  | .ptr d => uptoBulk d + 1
  | .slice elems spare => uptoBulkAll elems + uptoBulkAll spare + 1
  | .agg parts => uptoBulkAll parts + 1
  | .iface _ d => uptoBulk d + 1
  | .map entries => uptoBulkEntries entries + 1
  | .held _ => 1
def uptoBulkAll {H : Type} : List (DataW H) → Nat
  | [] => 0
  | d :: r => uptoBulk d + uptoBulkAll r
def uptoBulkEntries {H : Type} : List (Lit × DataW H) → Nat
  | [] => 0
  | x :: r => uptoBulkEntry x + uptoBulkEntries r
def uptoBulkEntry {H : Type} : Lit × DataW H → Nat
  | (.string bytes, d) => bytes.length + uptoBulk d + 1
  | (_, d) => uptoBulk d + 1
 end
def uptoSmall : (H : Type) → List (DataW H) → Bool := fun _ ds => decide (uptoBulkAll ds ≤ 1048576)
def OpenSpec.upto (s : _root_.Go.ChangeSpec) : _root_.Go.OpenSpec := { _root_.Go.OpenSpec.ofChange s with cond := some uptoSmall }

/-- 'leapfroglaw18.GatePlaces', WHERE WHAT IT READS IS OF BULK AT MOST 1048576: true; the input reads as it did. -/
def gatePlacesUptoRow : OpenClaim := { program := "ytihgfklajhhikaa", sum := "19c99b61d19d2268ff8607b9e6bd8fff96569a325a634ef2143fa535350268c5", func := "leapfrog/leapfroglaw18.GatePlaces", spec := "gatePlaces", inPlace := ["sync/atomic.StoreUint64", "sync/atomic.LoadUint64"], apart := false, narrowed := true }
def GatePlacesUptoSaid : Prop := gatePlacesUptoRow.holds Try.pinned (OpenSpec.upto gatePlacesSpec)

/-- 'leapfroglaw17.EachPlaces', WHERE WHAT IT READS IS OF BULK AT MOST 1048576: true; the input reads as it did. -/
def eachPlacesUptoRow : OpenClaim := { program := "ytihgfklajhhikaa", sum := "19c99b61d19d2268ff8607b9e6bd8fff96569a325a634ef2143fa535350268c5", func := "leapfrog/leapfroglaw17.EachPlaces", spec := "eachPlaces", inPlace := ["sync/atomic.StoreUint64", "sync/atomic.LoadUint64"], apart := false, narrowed := true }
def EachPlacesUptoSaid : Prop := eachPlacesUptoRow.holds Try.pinned (OpenSpec.upto eachPlacesSpec)

/-- 'leapfroglaw17.EachProgress', WHERE WHAT IT READS IS OF BULK AT MOST 1048576: true; the input reads as it did. -/
def eachProgressUptoRow : OpenClaim := { program := "ytihgfklajhhikaa", sum := "19c99b61d19d2268ff8607b9e6bd8fff96569a325a634ef2143fa535350268c5", func := "leapfrog/leapfroglaw17.EachProgress", spec := "eachProgress", inPlace := ["sync/atomic.StoreUint64", "sync/atomic.LoadUint64", "sync/atomic.SwapUint64"], unfollowed := true, recurses := true, apart := false, narrowed := true }
def EachProgressUptoSaid : Prop := eachProgressUptoRow.holds Try.pinned (OpenSpec.upto eachProgressSpec)

/-- 'leapfroglaw17.EachIgnores', WHERE WHAT IT READS IS OF BULK AT MOST 1048576: true; the input reads as it did. -/
def eachIgnoresUptoRow : OpenClaim := { program := "ytihgfklajhhikaa", sum := "19c99b61d19d2268ff8607b9e6bd8fff96569a325a634ef2143fa535350268c5", func := "leapfrog/leapfroglaw17.EachIgnores", spec := "eachIgnores", inPlace := ["sync/atomic.StoreUint64", "sync/atomic.LoadUint64", "sync/atomic.SwapUint64"], unfollowed := true, recurses := true, apart := false, narrowed := true }
def EachIgnoresUptoSaid : Prop := eachIgnoresUptoRow.holds Try.pinned (OpenSpec.upto eachIgnoresSpec)

/-- 'leapfroglaw17.EachGrace', WHERE WHAT IT READS IS OF BULK AT MOST 1048576: true; the input reads as it did. -/
def eachGraceUptoRow : OpenClaim := { program := "ytihgfklajhhikaa", sum := "19c99b61d19d2268ff8607b9e6bd8fff96569a325a634ef2143fa535350268c5", func := "leapfrog/leapfroglaw17.EachGrace", spec := "eachGrace", inPlace := ["sync/atomic.StoreUint64", "sync/atomic.LoadUint64", "sync/atomic.SwapUint64"], unfollowed := true, recurses := true, apart := false, narrowed := true }
def EachGraceUptoSaid : Prop := eachGraceUptoRow.holds Try.pinned (OpenSpec.upto eachGraceSpec)

/-- 'leapfroglaw17.EachExamples', WHERE WHAT IT READS IS OF BULK AT MOST 1048576: true; the input reads as it did. -/
def eachExamplesUptoRow : OpenClaim := { program := "ytihgfklajhhikaa", sum := "19c99b61d19d2268ff8607b9e6bd8fff96569a325a634ef2143fa535350268c5", func := "leapfrog/leapfroglaw17.EachExamples", spec := "eachExamples", inPlace := ["sync/atomic.StoreUint64", "sync/atomic.LoadUint64", "sync/atomic.SwapUint64"], unfollowed := true, recurses := true, apart := false, narrowed := true }
def EachExamplesUptoSaid : Prop := eachExamplesUptoRow.holds Try.pinned (OpenSpec.upto eachExamplesSpec)

/-- 'leapfroglaw17.EachSteps', WHERE WHAT IT READS IS OF BULK AT MOST 1048576: true; the input reads as it did. -/
def eachStepsUptoRow : OpenClaim := { program := "ytihgfklajhhikaa", sum := "19c99b61d19d2268ff8607b9e6bd8fff96569a325a634ef2143fa535350268c5", func := "leapfrog/leapfroglaw17.EachSteps", spec := "eachSteps", inPlace := ["sync/atomic.StoreUint64", "sync/atomic.LoadUint64", "sync/atomic.SwapUint64"], unfollowed := true, recurses := true, apart := false, narrowed := true }
def EachStepsUptoSaid : Prop := eachStepsUptoRow.holds Try.pinned (OpenSpec.upto eachStepsSpec)

/-- 'leapfroglaw18.GateProgress', WHERE WHAT IT READS IS OF BULK AT MOST 1048576: true; the input reads as it did. -/
def gateProgressUptoRow : OpenClaim := { program := "ytihgfklajhhikaa", sum := "19c99b61d19d2268ff8607b9e6bd8fff96569a325a634ef2143fa535350268c5", func := "leapfrog/leapfroglaw18.GateProgress", spec := "gateProgress", inPlace := ["sync/atomic.StoreUint64", "sync/atomic.LoadUint64", "sync/atomic.AddUint64", "sync/atomic.CompareAndSwapUint64", "sync/atomic.SwapUint64"], unfollowed := true, recurses := true, apart := false, narrowed := true }
def GateProgressUptoSaid : Prop := gateProgressUptoRow.holds Try.pinned (OpenSpec.upto gateProgressSpec)

/-- 'leapfroglaw18.GateCounts', WHERE WHAT IT READS IS OF BULK AT MOST 1048576: true; the input reads as it did. -/
def gateCountsUptoRow : OpenClaim := { program := "ytihgfklajhhikaa", sum := "19c99b61d19d2268ff8607b9e6bd8fff96569a325a634ef2143fa535350268c5", func := "leapfrog/leapfroglaw18.GateCounts", spec := "gateCounts", inPlace := ["sync/atomic.StoreUint64", "sync/atomic.LoadUint64", "sync/atomic.AddUint64", "sync/atomic.CompareAndSwapUint64", "sync/atomic.SwapUint64"], unfollowed := true, recurses := true, apart := false, narrowed := true }
def GateCountsUptoSaid : Prop := gateCountsUptoRow.holds Try.pinned (OpenSpec.upto gateCountsSpec)

/-- 'leapfroglaw18.GateGrace', WHERE WHAT IT READS IS OF BULK AT MOST 1048576: true; the input reads as it did. -/
def gateGraceUptoRow : OpenClaim := { program := "ytihgfklajhhikaa", sum := "19c99b61d19d2268ff8607b9e6bd8fff96569a325a634ef2143fa535350268c5", func := "leapfrog/leapfroglaw18.GateGrace", spec := "gateGrace", inPlace := ["sync/atomic.StoreUint64", "sync/atomic.LoadUint64", "sync/atomic.AddUint64", "sync/atomic.CompareAndSwapUint64", "sync/atomic.SwapUint64"], unfollowed := true, recurses := true, apart := false, narrowed := true }
def GateGraceUptoSaid : Prop := gateGraceUptoRow.holds Try.pinned (OpenSpec.upto gateGraceSpec)

/-- 'leapfroglaw18.GateExamples', WHERE WHAT IT READS IS OF BULK AT MOST 1048576: true; the input reads as it did. -/
def gateExamplesUptoRow : OpenClaim := { program := "ytihgfklajhhikaa", sum := "19c99b61d19d2268ff8607b9e6bd8fff96569a325a634ef2143fa535350268c5", func := "leapfrog/leapfroglaw18.GateExamples", spec := "gateExamples", inPlace := ["sync/atomic.StoreUint64", "sync/atomic.LoadUint64", "sync/atomic.AddUint64", "sync/atomic.CompareAndSwapUint64", "sync/atomic.SwapUint64"], unfollowed := true, recurses := true, apart := false, narrowed := true }
def GateExamplesUptoSaid : Prop := gateExamplesUptoRow.holds Try.pinned (OpenSpec.upto gateExamplesSpec)

/-- 'leapfroglaw18.GateSteps', WHERE WHAT IT READS IS OF BULK AT MOST 1048576: true; the input reads as it did. -/
def gateStepsUptoRow : OpenClaim := { program := "ytihgfklajhhikaa", sum := "19c99b61d19d2268ff8607b9e6bd8fff96569a325a634ef2143fa535350268c5", func := "leapfrog/leapfroglaw18.GateSteps", spec := "gateSteps", inPlace := ["sync/atomic.StoreUint64", "sync/atomic.LoadUint64", "sync/atomic.AddUint64", "sync/atomic.CompareAndSwapUint64", "sync/atomic.SwapUint64"], unfollowed := true, recurses := true, apart := false, narrowed := true }
def GateStepsUptoSaid : Prop := gateStepsUptoRow.holds Try.pinned (OpenSpec.upto gateStepsSpec)

end Rows
end Go.Proofs.Ytihgfklajhhikaa
