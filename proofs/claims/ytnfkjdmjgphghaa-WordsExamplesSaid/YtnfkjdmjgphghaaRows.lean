/-
  No cell of these rows narrows 'for every input' (looked for: loops, veiled, ifaces, maps, wideKeys, modest, calm, conditions, laid).
  DERIVED. THE GIVEN ROWS OF THIS SEAT. 8 by the template 'for every input the law returns true; each argument reads behind the call as it read before'; 0 by the template 'total and deterministic' (their statements: YtnfkjdmjgphghaaTotals.lean).
  GIVEN WITH THE SEED: the statements are not yours to turn. If you find one false, say at which input.
  Laid BY PROGRAM, IN A SANDBOX (cutbox-rows.mjs): the forced cells as the released guide's own fill.sh prints them over the translation 162a47ae4e0c6d67… (all of the seat's roots in one cut). By AI agents, Wed Nov 11 2026. No macro, syntax, notation, axiom, sorry.
-/
import Derived.Test.YtnfkjdmjgphghaaChecked
import GoSem.Claim
import GoSem.ClaimJoined
import GoSem.ClaimMapViews
import Derived.JoinedTies
import Derived.KernelRfl
namespace Go.Proofs.Ytnfkjdmjgphghaa
/- THE CELL 'sum', in the pinned program and in every row, IS THE sha256 OF THE DUMP (.gsa) THAT YtnfkjdmjgphghaaProg.lean LOADS. Nothing in Lean hashes anything: it is a label: what it is worth is what the hold of that sum in a sandbox is worth. -/
noncomputable def Try.pinned : Pinned := { name := "ytnfkjdmjgphghaa", sum := "162a47ae4e0c6d674499abf9321185309467654813ad748915f79aa29f9bf0bb", checked := Try.checked }
namespace Rows
def none {H : Type} : Left H := { results := [], args := [] }

/-- 'leapfroglaw08.WordsSizes': WHATEVER THE INPUT: true; the input reads as it did. -/
def wordsSizesSpec : ChangeSpec := { name := "wordsSizes", fn := fun _ => fun
  | [d] => { results := [.lit (.bool true)], args := [d] }
  | _ => none }
def wordsSizesRow : OpenClaim := { program := "ytnfkjdmjgphghaa", sum := "162a47ae4e0c6d674499abf9321185309467654813ad748915f79aa29f9bf0bb", func := "leapfrog/leapfroglaw08.WordsSizes", spec := "wordsSizes", inPlace := ["sync/atomic.StoreUint64", "sync/atomic.LoadUint64"], apart := false }
def WordsSizesSaid : Prop := wordsSizesRow.holds Try.pinned (OpenSpec.ofChange wordsSizesSpec)

/-- ITS FALSE NEIGHBOUR: 'it returns false'. Refute it at one input. -/
def wordsSizesWrong : ChangeSpec := { name := "wordsSizes", fn := fun _ => fun
  | [d] => { results := [.lit (.bool false)], args := [d] }
  | _ => none }
def WordsSizesWrongFalsely : Prop := wordsSizesRow.holds Try.pinned (OpenSpec.ofChange wordsSizesWrong)

/-- 'leapfroglaw08.WordsReplays': WHATEVER THE INPUT: true; the input reads as it did. -/
def wordsReplaysSpec : ChangeSpec := { name := "wordsReplays", fn := fun _ => fun
  | [d1, d2] => { results := [.lit (.bool true)], args := [d1, d2] }
  | _ => none }
def wordsReplaysRow : OpenClaim := { program := "ytnfkjdmjgphghaa", sum := "162a47ae4e0c6d674499abf9321185309467654813ad748915f79aa29f9bf0bb", func := "leapfrog/leapfroglaw08.WordsReplays", spec := "wordsReplays", inPlace := ["sync/atomic.StoreUint64", "sync/atomic.LoadUint64"], apart := false }
def WordsReplaysSaid : Prop := wordsReplaysRow.holds Try.pinned (OpenSpec.ofChange wordsReplaysSpec)

/-- ITS FALSE NEIGHBOUR: 'it returns false'. Refute it at one input. -/
def wordsReplaysWrong : ChangeSpec := { name := "wordsReplays", fn := fun _ => fun
  | [d1, d2] => { results := [.lit (.bool false)], args := [d1, d2] }
  | _ => none }
def WordsReplaysWrongFalsely : Prop := wordsReplaysRow.holds Try.pinned (OpenSpec.ofChange wordsReplaysWrong)

/-- 'leapfroglaw08.WordsSums': WHATEVER THE INPUT: true; the input reads as it did. -/
def wordsSumsSpec : ChangeSpec := { name := "wordsSums", fn := fun _ => fun
  | [d1, d2] => { results := [.lit (.bool true)], args := [d1, d2] }
  | _ => none }
def wordsSumsRow : OpenClaim := { program := "ytnfkjdmjgphghaa", sum := "162a47ae4e0c6d674499abf9321185309467654813ad748915f79aa29f9bf0bb", func := "leapfrog/leapfroglaw08.WordsSums", spec := "wordsSums", inPlace := ["sync/atomic.StoreUint64", "sync/atomic.AddUint64", "sync/atomic.LoadUint64", "sync/atomic.CompareAndSwapUint64"], apart := false }
def WordsSumsSaid : Prop := wordsSumsRow.holds Try.pinned (OpenSpec.ofChange wordsSumsSpec)

/-- ITS FALSE NEIGHBOUR: 'it returns false'. Refute it at one input. -/
def wordsSumsWrong : ChangeSpec := { name := "wordsSums", fn := fun _ => fun
  | [d1, d2] => { results := [.lit (.bool false)], args := [d1, d2] }
  | _ => none }
def WordsSumsWrongFalsely : Prop := wordsSumsRow.holds Try.pinned (OpenSpec.ofChange wordsSumsWrong)

/-- 'leapfroglaw08.WordsCommute': WHATEVER THE INPUT: true; the input reads as it did. -/
def wordsCommuteSpec : ChangeSpec := { name := "wordsCommute", fn := fun _ => fun
  | [d1, d2, d3] => { results := [.lit (.bool true)], args := [d1, d2, d3] }
  | _ => none }
def wordsCommuteRow : OpenClaim := { program := "ytnfkjdmjgphghaa", sum := "162a47ae4e0c6d674499abf9321185309467654813ad748915f79aa29f9bf0bb", func := "leapfrog/leapfroglaw08.WordsCommute", spec := "wordsCommute", inPlace := ["sync/atomic.StoreUint64", "sync/atomic.LoadUint64", "sync/atomic.SwapUint64", "sync/atomic.AddUint64", "sync/atomic.CompareAndSwapUint64"], apart := false }
def WordsCommuteSaid : Prop := wordsCommuteRow.holds Try.pinned (OpenSpec.ofChange wordsCommuteSpec)

/-- ITS FALSE NEIGHBOUR: 'it returns false'. Refute it at one input. -/
def wordsCommuteWrong : ChangeSpec := { name := "wordsCommute", fn := fun _ => fun
  | [d1, d2, d3] => { results := [.lit (.bool false)], args := [d1, d2, d3] }
  | _ => none }
def WordsCommuteWrongFalsely : Prop := wordsCommuteRow.holds Try.pinned (OpenSpec.ofChange wordsCommuteWrong)

/-- 'leapfroglaw08.WordsCalls': WHATEVER THE INPUT: true; the input reads as it did. -/
def wordsCallsSpec : ChangeSpec := { name := "wordsCalls", fn := fun _ => fun
  | [d1, d2, d3] => { results := [.lit (.bool true)], args := [d1, d2, d3] }
  | _ => none }
def wordsCallsRow : OpenClaim := { program := "ytnfkjdmjgphghaa", sum := "162a47ae4e0c6d674499abf9321185309467654813ad748915f79aa29f9bf0bb", func := "leapfrog/leapfroglaw08.WordsCalls", spec := "wordsCalls", inPlace := ["sync/atomic.StoreUint64", "sync/atomic.LoadUint64", "sync/atomic.SwapUint64", "sync/atomic.AddUint64", "sync/atomic.CompareAndSwapUint64"], apart := false }
def WordsCallsSaid : Prop := wordsCallsRow.holds Try.pinned (OpenSpec.ofChange wordsCallsSpec)

/-- ITS FALSE NEIGHBOUR: 'it returns false'. Refute it at one input. -/
def wordsCallsWrong : ChangeSpec := { name := "wordsCalls", fn := fun _ => fun
  | [d1, d2, d3] => { results := [.lit (.bool false)], args := [d1, d2, d3] }
  | _ => none }
def WordsCallsWrongFalsely : Prop := wordsCallsRow.holds Try.pinned (OpenSpec.ofChange wordsCallsWrong)

/-- 'leapfroglaw08.WordsConsistent': WHATEVER THE INPUT: true; the input reads as it did. -/
def wordsConsistentSpec : ChangeSpec := { name := "wordsConsistent", fn := fun _ => fun
  | [d1, d2] => { results := [.lit (.bool true)], args := [d1, d2] }
  | _ => none }
def wordsConsistentRow : OpenClaim := { program := "ytnfkjdmjgphghaa", sum := "162a47ae4e0c6d674499abf9321185309467654813ad748915f79aa29f9bf0bb", func := "leapfrog/leapfroglaw08.WordsConsistent", spec := "wordsConsistent", inPlace := ["sync/atomic.StoreUint64", "sync/atomic.LoadUint64", "sync/atomic.SwapUint64", "sync/atomic.AddUint64", "sync/atomic.CompareAndSwapUint64"], apart := false }
def WordsConsistentSaid : Prop := wordsConsistentRow.holds Try.pinned (OpenSpec.ofChange wordsConsistentSpec)

/-- ITS FALSE NEIGHBOUR: 'it returns false'. Refute it at one input. -/
def wordsConsistentWrong : ChangeSpec := { name := "wordsConsistent", fn := fun _ => fun
  | [d1, d2] => { results := [.lit (.bool false)], args := [d1, d2] }
  | _ => none }
def WordsConsistentWrongFalsely : Prop := wordsConsistentRow.holds Try.pinned (OpenSpec.ofChange wordsConsistentWrong)

/-- 'leapfroglaw08.WordsSpoilt': WHATEVER THE INPUT: true; the input reads as it did. -/
def wordsSpoiltSpec : ChangeSpec := { name := "wordsSpoilt", fn := fun _ => fun
  | [d1, d2, d3, d4] => { results := [.lit (.bool true)], args := [d1, d2, d3, d4] }
  | _ => none }
def wordsSpoiltRow : OpenClaim := { program := "ytnfkjdmjgphghaa", sum := "162a47ae4e0c6d674499abf9321185309467654813ad748915f79aa29f9bf0bb", func := "leapfrog/leapfroglaw08.WordsSpoilt", spec := "wordsSpoilt", inPlace := ["sync/atomic.StoreUint64", "sync/atomic.LoadUint64", "sync/atomic.SwapUint64", "sync/atomic.AddUint64", "sync/atomic.CompareAndSwapUint64"], apart := false }
def WordsSpoiltSaid : Prop := wordsSpoiltRow.holds Try.pinned (OpenSpec.ofChange wordsSpoiltSpec)

/-- ITS FALSE NEIGHBOUR: 'it returns false'. Refute it at one input. -/
def wordsSpoiltWrong : ChangeSpec := { name := "wordsSpoilt", fn := fun _ => fun
  | [d1, d2, d3, d4] => { results := [.lit (.bool false)], args := [d1, d2, d3, d4] }
  | _ => none }
def WordsSpoiltWrongFalsely : Prop := wordsSpoiltRow.holds Try.pinned (OpenSpec.ofChange wordsSpoiltWrong)

/-- 'leapfroglaw08.WordsExamples': WHATEVER THE INPUT: true; the input reads as it did. -/
def wordsExamplesSpec : ChangeSpec := { name := "wordsExamples", fn := fun _ => fun
  | [] => { results := [.lit (.bool true)], args := [] }
  | _ => none }
def wordsExamplesRow : OpenClaim := { program := "ytnfkjdmjgphghaa", sum := "162a47ae4e0c6d674499abf9321185309467654813ad748915f79aa29f9bf0bb", func := "leapfrog/leapfroglaw08.WordsExamples", spec := "wordsExamples", inPlace := ["sync/atomic.StoreUint64", "sync/atomic.AddUint64", "sync/atomic.LoadUint64", "sync/atomic.CompareAndSwapUint64", "sync/atomic.SwapUint64"], apart := false }
def WordsExamplesSaid : Prop := wordsExamplesRow.holds Try.pinned (OpenSpec.ofChange wordsExamplesSpec)

/-- ITS FALSE NEIGHBOUR: 'it returns false'. Refute it at one input. -/
def wordsExamplesWrong : ChangeSpec := { name := "wordsExamples", fn := fun _ => fun
  | [] => { results := [.lit (.bool false)], args := [] }
  | _ => none }
def WordsExamplesWrongFalsely : Prop := wordsExamplesRow.holds Try.pinned (OpenSpec.ofChange wordsExamplesWrong)

/- THE SECOND FORM. 'bulk': how many values and letters a reading holds, each counted each time it is reached (what is shared counts as often as it is met; a slice's spare places count too). A statement '..UptoSaid' is the law's where the arguments, and the package variables that the reading takes, are together of bulk at most 1048576: NARROWER than '..Said'. Prove '..Said' where nothing that the law and all that it calls make is longer than what came in: it says more and counts as full. Else prove '..UptoSaid'. A law counts once. -/
mutual
def uptoBulk {H : Type} : DataW H → Nat
  | .lit (.string bytes) => bytes.length + 1
  | .lit _ => 1
  | .nil => 1
  | .ptr d => uptoBulk d + 1
  | .slice elems spare => uptoBulkAll elems + uptoBulkAll spare + 1
  | .agg parts => uptoBulkAll parts + 1
  | .iface _ d => uptoBulk d + 1
  | .map entries => uptoBulkEntries entries + 1
  | .held _ => 1
def uptoBulkAll {H : Type} : List (DataW H) → Nat
  | [] => 0
  | d :: r => uptoBulk d + uptoBulkAll r
def uptoBulkEntries {H : Type} : List (Lit × DataW H) → Nat
  | [] => 0
  | x :: r => uptoBulkEntry x + uptoBulkEntries r
def uptoBulkEntry {H : Type} : Lit × DataW H → Nat
  | (.string bytes, d) => bytes.length + uptoBulk d + 1
  | (_, d) => uptoBulk d + 1
 end
def uptoSmall : (H : Type) → List (DataW H) → Bool := fun _ ds => decide (uptoBulkAll ds ≤ 1048576)
def OpenSpec.upto (s : _root_.Go.ChangeSpec) : _root_.Go.OpenSpec := { _root_.Go.OpenSpec.ofChange s with cond := some uptoSmall }

/-- 'leapfroglaw08.WordsSizes', WHERE WHAT IT READS IS OF BULK AT MOST 1048576: true; the input reads as it did. -/
def wordsSizesUptoRow : OpenClaim := { program := "ytnfkjdmjgphghaa", sum := "162a47ae4e0c6d674499abf9321185309467654813ad748915f79aa29f9bf0bb", func := "leapfrog/leapfroglaw08.WordsSizes", spec := "wordsSizes", inPlace := ["sync/atomic.StoreUint64", "sync/atomic.LoadUint64"], apart := false, narrowed := true }
def WordsSizesUptoSaid : Prop := wordsSizesUptoRow.holds Try.pinned (OpenSpec.upto wordsSizesSpec)

/-- 'leapfroglaw08.WordsReplays', WHERE WHAT IT READS IS OF BULK AT MOST 1048576: true; the input reads as it did. -/
def wordsReplaysUptoRow : OpenClaim := { program := "ytnfkjdmjgphghaa", sum := "162a47ae4e0c6d674499abf9321185309467654813ad748915f79aa29f9bf0bb", func := "leapfrog/leapfroglaw08.WordsReplays", spec := "wordsReplays", inPlace := ["sync/atomic.StoreUint64", "sync/atomic.LoadUint64"], apart := false, narrowed := true }
def WordsReplaysUptoSaid : Prop := wordsReplaysUptoRow.holds Try.pinned (OpenSpec.upto wordsReplaysSpec)

/-- 'leapfroglaw08.WordsSums', WHERE WHAT IT READS IS OF BULK AT MOST 1048576: true; the input reads as it did. -/
def wordsSumsUptoRow : OpenClaim := { program := "ytnfkjdmjgphghaa", sum := "162a47ae4e0c6d674499abf9321185309467654813ad748915f79aa29f9bf0bb", func := "leapfrog/leapfroglaw08.WordsSums", spec := "wordsSums", inPlace := ["sync/atomic.StoreUint64", "sync/atomic.AddUint64", "sync/atomic.LoadUint64", "sync/atomic.CompareAndSwapUint64"], apart := false, narrowed := true }
def WordsSumsUptoSaid : Prop := wordsSumsUptoRow.holds Try.pinned (OpenSpec.upto wordsSumsSpec)

/-- 'leapfroglaw08.WordsCommute', WHERE WHAT IT READS IS OF BULK AT MOST 1048576: true; the input reads as it did. -/
def wordsCommuteUptoRow : OpenClaim := { program := "ytnfkjdmjgphghaa", sum := "162a47ae4e0c6d674499abf9321185309467654813ad748915f79aa29f9bf0bb", func := "leapfrog/leapfroglaw08.WordsCommute", spec := "wordsCommute", inPlace := ["sync/atomic.StoreUint64", "sync/atomic.LoadUint64", "sync/atomic.SwapUint64", "sync/atomic.AddUint64", "sync/atomic.CompareAndSwapUint64"], apart := false, narrowed := true }
def WordsCommuteUptoSaid : Prop := wordsCommuteUptoRow.holds Try.pinned (OpenSpec.upto wordsCommuteSpec)

/-- 'leapfroglaw08.WordsCalls', WHERE WHAT IT READS IS OF BULK AT MOST 1048576: true; the input reads as it did. -/
def wordsCallsUptoRow : OpenClaim := { program := "ytnfkjdmjgphghaa", sum := "162a47ae4e0c6d674499abf9321185309467654813ad748915f79aa29f9bf0bb", func := "leapfrog/leapfroglaw08.WordsCalls", spec := "wordsCalls", inPlace := ["sync/atomic.StoreUint64", "sync/atomic.LoadUint64", "sync/atomic.SwapUint64", "sync/atomic.AddUint64", "sync/atomic.CompareAndSwapUint64"], apart := false, narrowed := true }
def WordsCallsUptoSaid : Prop := wordsCallsUptoRow.holds Try.pinned (OpenSpec.upto wordsCallsSpec)

/-- 'leapfroglaw08.WordsConsistent', WHERE WHAT IT READS IS OF BULK AT MOST 1048576: true; the input reads as it did. -/
def wordsConsistentUptoRow : OpenClaim := { program := "ytnfkjdmjgphghaa", sum := "162a47ae4e0c6d674499abf9321185309467654813ad748915f79aa29f9bf0bb", func := "leapfrog/leapfroglaw08.WordsConsistent", spec := "wordsConsistent", inPlace := ["sync/atomic.StoreUint64", "sync/atomic.LoadUint64", "sync/atomic.SwapUint64", "sync/atomic.AddUint64", "sync/atomic.CompareAndSwapUint64"], apart := false, narrowed := true }
def WordsConsistentUptoSaid : Prop := wordsConsistentUptoRow.holds Try.pinned (OpenSpec.upto wordsConsistentSpec)

/-- 'leapfroglaw08.WordsSpoilt', WHERE WHAT IT READS IS OF BULK AT MOST 1048576: true; the input reads as it did. -/
def wordsSpoiltUptoRow : OpenClaim := { program := "ytnfkjdmjgphghaa", sum := "162a47ae4e0c6d674499abf9321185309467654813ad748915f79aa29f9bf0bb", func := "leapfrog/leapfroglaw08.WordsSpoilt", spec := "wordsSpoilt", inPlace := ["sync/atomic.StoreUint64", "sync/atomic.LoadUint64", "sync/atomic.SwapUint64", "sync/atomic.AddUint64", "sync/atomic.CompareAndSwapUint64"], apart := false, narrowed := true }
def WordsSpoiltUptoSaid : Prop := wordsSpoiltUptoRow.holds Try.pinned (OpenSpec.upto wordsSpoiltSpec)

/-- 'leapfroglaw08.WordsExamples', WHERE WHAT IT READS IS OF BULK AT MOST 1048576: true; the input reads as it did. -/
def wordsExamplesUptoRow : OpenClaim := { program := "ytnfkjdmjgphghaa", sum := "162a47ae4e0c6d674499abf9321185309467654813ad748915f79aa29f9bf0bb", func := "leapfrog/leapfroglaw08.WordsExamples", spec := "wordsExamples", inPlace := ["sync/atomic.StoreUint64", "sync/atomic.AddUint64", "sync/atomic.LoadUint64", "sync/atomic.CompareAndSwapUint64", "sync/atomic.SwapUint64"], apart := false, narrowed := true }
def WordsExamplesUptoSaid : Prop := wordsExamplesUptoRow.holds Try.pinned (OpenSpec.upto wordsExamplesSpec)

end Rows
end Go.Proofs.Ytnfkjdmjgphghaa
