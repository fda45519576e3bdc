/-
  No cell of these rows narrows 'for every input' (looked for: loops, veiled, ifaces, maps, wideKeys, modest, calm, conditions, laid).
  DERIVED. THE GIVEN ROWS OF THIS SEAT. 4 by the template 'for every input the law returns true; each argument reads behind the call as it read before'; 0 by the template 'total and deterministic' (their statements: YtjghenomeindcaaTotals.lean).
  GIVEN WITH THE SEED: the statements are not yours to turn. If you find one false, say at which input.
  Laid BY PROGRAM, IN A SANDBOX (cutbox-rows.mjs): the forced cells as the released guide's own fill.sh prints them over the translation 93eea0dde896e3f9… (all of the seat's roots in one cut). By AI agents, Wed Nov 11 2026. No macro, syntax, notation, axiom, sorry.
-/
import Derived.Test.YtjghenomeindcaaChecked
import GoSem.Claim
import GoSem.ClaimJoined
import GoSem.ClaimMapViews
import Derived.JoinedTies
import Derived.KernelRfl
namespace Go.Proofs.Ytjghenomeindcaa
/- THE CELL 'sum', in the pinned program and in every row, IS THE sha256 OF THE DUMP (.gsa) THAT YtjghenomeindcaaProg.lean LOADS. Nothing in Lean hashes anything: it is a label: what it is worth is what the hold of that sum in a sandbox is worth. -/
noncomputable def Try.pinned : Pinned := { name := "ytjghenomeindcaa", sum := "93eea0dde896e3f9ca43462dadc0271e83c98d65d0dfb858c61c7b1bf603d695", checked := Try.checked }
namespace Rows
def none {H : Type} : Left H := { results := [], args := [] }

/-- 'leapfroglaw14.PoolStack': WHATEVER THE INPUT: true; the input reads as it did. -/
def poolStackSpec : ChangeSpec := { name := "poolStack", fn := fun _ => fun
  | [d1, d2] => { results := [.lit (.bool true)], args := [d1, d2] }
  | _ => none }
def poolStackRow : OpenClaim := { program := "ytjghenomeindcaa", sum := "93eea0dde896e3f9ca43462dadc0271e83c98d65d0dfb858c61c7b1bf603d695", func := "leapfrog/leapfroglaw14.PoolStack", spec := "poolStack", inPlace := ["sync/atomic.StoreUint64", "sync/atomic.LoadUint64", "sync/atomic.SwapUint64", "sync/atomic.CompareAndSwapUint64"], unfollowed := true, recurses := true, apart := false }
def PoolStackSaid : Prop := poolStackRow.holds Try.pinned (OpenSpec.ofChange poolStackSpec)

/-- ITS FALSE NEIGHBOUR: 'it returns false'. Refute it at one input. -/
def poolStackWrong : ChangeSpec := { name := "poolStack", fn := fun _ => fun
  | [d1, d2] => { results := [.lit (.bool false)], args := [d1, d2] }
  | _ => none }
def PoolStackWrongFalsely : Prop := poolStackRow.holds Try.pinned (OpenSpec.ofChange poolStackWrong)

/-- 'leapfroglaw14.PoolPartition': WHATEVER THE INPUT: true; the input reads as it did. -/
def poolPartitionSpec : ChangeSpec := { name := "poolPartition", fn := fun _ => fun
  | [d1, d2] => { results := [.lit (.bool true)], args := [d1, d2] }
  | _ => none }
def poolPartitionRow : OpenClaim := { program := "ytjghenomeindcaa", sum := "93eea0dde896e3f9ca43462dadc0271e83c98d65d0dfb858c61c7b1bf603d695", func := "leapfrog/leapfroglaw14.PoolPartition", spec := "poolPartition", inPlace := ["sync/atomic.StoreUint64", "sync/atomic.LoadUint64", "sync/atomic.SwapUint64", "sync/atomic.CompareAndSwapUint64"], unfollowed := true, recurses := true, apart := false }
def PoolPartitionSaid : Prop := poolPartitionRow.holds Try.pinned (OpenSpec.ofChange poolPartitionSpec)

/-- ITS FALSE NEIGHBOUR: 'it returns false'. Refute it at one input. -/
def poolPartitionWrong : ChangeSpec := { name := "poolPartition", fn := fun _ => fun
  | [d1, d2] => { results := [.lit (.bool false)], args := [d1, d2] }
  | _ => none }
def PoolPartitionWrongFalsely : Prop := poolPartitionRow.holds Try.pinned (OpenSpec.ofChange poolPartitionWrong)

/-- 'leapfroglaw14.PoolExamples': WHATEVER THE INPUT: true; the input reads as it did. -/
def poolExamplesSpec : ChangeSpec := { name := "poolExamples", fn := fun _ => fun
  | [] => { results := [.lit (.bool true)], args := [] }
  | _ => none }
def poolExamplesRow : OpenClaim := { program := "ytjghenomeindcaa", sum := "93eea0dde896e3f9ca43462dadc0271e83c98d65d0dfb858c61c7b1bf603d695", func := "leapfrog/leapfroglaw14.PoolExamples", spec := "poolExamples", inPlace := ["sync/atomic.StoreUint64", "sync/atomic.LoadUint64", "sync/atomic.CompareAndSwapUint64", "sync/atomic.SwapUint64"], unfollowed := true, recurses := true, apart := false }
def PoolExamplesSaid : Prop := poolExamplesRow.holds Try.pinned (OpenSpec.ofChange poolExamplesSpec)

/-- ITS FALSE NEIGHBOUR: 'it returns false'. Refute it at one input. -/
def poolExamplesWrong : ChangeSpec := { name := "poolExamples", fn := fun _ => fun
  | [] => { results := [.lit (.bool false)], args := [] }
  | _ => none }
def PoolExamplesWrongFalsely : Prop := poolExamplesRow.holds Try.pinned (OpenSpec.ofChange poolExamplesWrong)

/-- 'leapfroglaw14.PoolGens': WHATEVER THE INPUT: true; the input reads as it did. -/
def poolGensSpec : ChangeSpec := { name := "poolGens", fn := fun _ => fun
  | [d1, d2] => { results := [.lit (.bool true)], args := [d1, d2] }
  | _ => none }
def poolGensRow : OpenClaim := { program := "ytjghenomeindcaa", sum := "93eea0dde896e3f9ca43462dadc0271e83c98d65d0dfb858c61c7b1bf603d695", func := "leapfrog/leapfroglaw14.PoolGens", spec := "poolGens", inPlace := ["sync/atomic.StoreUint64", "sync/atomic.LoadUint64", "sync/atomic.SwapUint64", "sync/atomic.CompareAndSwapUint64"], unfollowed := true, recurses := true, apart := false }
def PoolGensSaid : Prop := poolGensRow.holds Try.pinned (OpenSpec.ofChange poolGensSpec)

/-- ITS FALSE NEIGHBOUR: 'it returns false'. Refute it at one input. -/
def poolGensWrong : ChangeSpec := { name := "poolGens", fn := fun _ => fun
  | [d1, d2] => { results := [.lit (.bool false)], args := [d1, d2] }
  | _ => none }
def PoolGensWrongFalsely : Prop := poolGensRow.holds Try.pinned (OpenSpec.ofChange poolGensWrong)

/- THE SECOND FORM. 'bulk': how many values and letters a reading holds, each counted each time it is reached (what is shared counts as often as it is met; a slice's spare places count too). A statement '..UptoSaid' is the law's where the arguments, and the package variables that the reading takes, are together of bulk at most 1048576: NARROWER than '..Said'. Prove '..Said' where nothing that the law and all that it calls make is longer than what came in: it says more and counts as full. Else prove '..UptoSaid'. A law counts once. -/
mutual
def uptoBulk {H : Type} : DataW H → Nat
  | .lit (.string bytes) => bytes.length + 1
  | .lit _ => 1
  | .nil => 1
  | .ptr d => uptoBulk d + 1
  | .slice elems spare => uptoBulkAll elems + uptoBulkAll spare + 1
  | .agg parts => uptoBulkAll parts + 1
  | .iface _ d => uptoBulk d + 1
  | .map entries => uptoBulkEntries entries + 1
  | .held _ => 1
def uptoBulkAll {H : Type} : List (DataW H) → Nat
  | [] => 0
  | d :: r => uptoBulk d + uptoBulkAll r
def uptoBulkEntries {H : Type} : List (Lit × DataW H) → Nat
  | [] => 0
  | x :: r => uptoBulkEntry x + uptoBulkEntries r
def uptoBulkEntry {H : Type} : Lit × DataW H → Nat
  | (.string bytes, d) => bytes.length + uptoBulk d + 1
  | (_, d) => uptoBulk d + 1
 end
def uptoSmall : (H : Type) → List (DataW H) → Bool := fun _ ds => decide (uptoBulkAll ds ≤ 1048576)
def OpenSpec.upto (s : _root_.Go.ChangeSpec) : _root_.Go.OpenSpec := { _root_.Go.OpenSpec.ofChange s with cond := some uptoSmall }

/-- 'leapfroglaw14.PoolStack', WHERE WHAT IT READS IS OF BULK AT MOST 1048576: true; the input reads as it did. -/
def poolStackUptoRow : OpenClaim := { program := "ytjghenomeindcaa", sum := "93eea0dde896e3f9ca43462dadc0271e83c98d65d0dfb858c61c7b1bf603d695", func := "leapfrog/leapfroglaw14.PoolStack", spec := "poolStack", inPlace := ["sync/atomic.StoreUint64", "sync/atomic.LoadUint64", "sync/atomic.SwapUint64", "sync/atomic.CompareAndSwapUint64"], unfollowed := true, recurses := true, apart := false, narrowed := true }
def PoolStackUptoSaid : Prop := poolStackUptoRow.holds Try.pinned (OpenSpec.upto poolStackSpec)

/-- 'leapfroglaw14.PoolPartition', WHERE WHAT IT READS IS OF BULK AT MOST 1048576: true; the input reads as it did. -/
def poolPartitionUptoRow : OpenClaim := { program := "ytjghenomeindcaa", sum := "93eea0dde896e3f9ca43462dadc0271e83c98d65d0dfb858c61c7b1bf603d695", func := "leapfrog/leapfroglaw14.PoolPartition", spec := "poolPartition", inPlace := ["sync/atomic.StoreUint64", "sync/atomic.LoadUint64", "sync/atomic.SwapUint64", "sync/atomic.CompareAndSwapUint64"], unfollowed := true, recurses := true, apart := false, narrowed := true }
def PoolPartitionUptoSaid : Prop := poolPartitionUptoRow.holds Try.pinned (OpenSpec.upto poolPartitionSpec)

/-- 'leapfroglaw14.PoolExamples', WHERE WHAT IT READS IS OF BULK AT MOST 1048576: true; the input reads as it did. -/
def poolExamplesUptoRow : OpenClaim := { program := "ytjghenomeindcaa", sum := "93eea0dde896e3f9ca43462dadc0271e83c98d65d0dfb858c61c7b1bf603d695", func := "leapfrog/leapfroglaw14.PoolExamples", spec := "poolExamples", inPlace := ["sync/atomic.StoreUint64", "sync/atomic.LoadUint64", "sync/atomic.CompareAndSwapUint64", "sync/atomic.SwapUint64"], unfollowed := true, recurses := true, apart := false, narrowed := true }
def PoolExamplesUptoSaid : Prop := poolExamplesUptoRow.holds Try.pinned (OpenSpec.upto poolExamplesSpec)

/-- 'leapfroglaw14.PoolGens', WHERE WHAT IT READS IS OF BULK AT MOST 1048576: true; the input reads as it did. -/
def poolGensUptoRow : OpenClaim := { program := "ytjghenomeindcaa", sum := "93eea0dde896e3f9ca43462dadc0271e83c98d65d0dfb858c61c7b1bf603d695", func := "leapfrog/leapfroglaw14.PoolGens", spec := "poolGens", inPlace := ["sync/atomic.StoreUint64", "sync/atomic.LoadUint64", "sync/atomic.SwapUint64", "sync/atomic.CompareAndSwapUint64"], unfollowed := true, recurses := true, apart := false, narrowed := true }
def PoolGensUptoSaid : Prop := poolGensUptoRow.holds Try.pinned (OpenSpec.upto poolGensSpec)

end Rows
end Go.Proofs.Ytjghenomeindcaa
