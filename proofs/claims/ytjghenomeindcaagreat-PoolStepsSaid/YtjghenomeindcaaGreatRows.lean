/-
  No cell of these rows narrows 'for every input' (looked for: loops, veiled, ifaces, maps, wideKeys, modest, calm, conditions, laid).
  DERIVED. THE GIVEN ROWS OF THIS SEAT. 5 by the template 'for every input the law returns true; each argument reads behind the call as it read before'; 0 by the template 'total and deterministic' (their statements: YtjghenomeindcaaGreatTotals.lean).
  GIVEN WITH THE SEED: the statements are not yours to turn. If you find one false, say at which input.
  Laid BY PROGRAM, IN A SANDBOX (cutbox-rows.mjs): the forced cells as the released guide's own fill.sh prints them over the translation 61776057448f1983… (all of the seat's roots in one cut). By AI agents, Wed Nov 11 2026. No macro, syntax, notation, axiom, sorry.
-/
import Derived.Test.YtjghenomeindcaaGreatChecked
import GoSem.Claim
import GoSem.ClaimJoined
import GoSem.ClaimMapViews
import Derived.JoinedTies
import Derived.KernelRfl
namespace Go.Proofs.YtjghenomeindcaaGreat
/- THE CELL 'sum', in the pinned program and in every row, IS THE sha256 OF THE DUMP (.gsa) THAT YtjghenomeindcaaGreatProg.lean LOADS. Nothing in Lean hashes anything: it is a label: what it is worth is what the hold of that sum in a sandbox is worth. -/
noncomputable def Tryz.pinned : Pinned := { name := "ytjghenomeindcaagreat", sum := "61776057448f198378ab07a43d2d6868139914b9c272327507bbf2a51ee0205e", checked := Tryz.checked }
namespace Rows
def none {H : Type} : Left H := { results := [], args := [] }

/-- 'leapfroglaw30.SessionNames': WHATEVER THE INPUT: true; the input reads as it did. -/
def sessionNamesSpec : ChangeSpec := { name := "sessionNames", fn := fun _ => fun
  | [] => { results := [.lit (.bool true)], args := [] }
  | _ => none }
def sessionNamesRow : OpenClaim := { program := "ytjghenomeindcaagreat", sum := "61776057448f198378ab07a43d2d6868139914b9c272327507bbf2a51ee0205e", func := "leapfrog/leapfroglaw30.SessionNames", spec := "sessionNames", inPlace := ["sync/atomic.LoadUint64", "sync/atomic.CompareAndSwapUint64", "sync/atomic.SwapUint64", "sync/atomic.StoreUint64"], unfollowed := true, recurses := true, apart := false }
def SessionNamesSaid : Prop := sessionNamesRow.holds Tryz.pinned (OpenSpec.ofChange sessionNamesSpec)

/-- ITS FALSE NEIGHBOUR: 'it returns false'. Refute it at one input. -/
def sessionNamesWrong : ChangeSpec := { name := "sessionNames", fn := fun _ => fun
  | [] => { results := [.lit (.bool false)], args := [] }
  | _ => none }
def SessionNamesWrongFalsely : Prop := sessionNamesRow.holds Tryz.pinned (OpenSpec.ofChange sessionNamesWrong)

/-- 'leapfroglaw30.SessionOne': WHATEVER THE INPUT: true; the input reads as it did. -/
def sessionOneSpec : ChangeSpec := { name := "sessionOne", fn := fun _ => fun
  | [d1, d2] => { results := [.lit (.bool true)], args := [d1, d2] }
  | _ => none }
def sessionOneRow : OpenClaim := { program := "ytjghenomeindcaagreat", sum := "61776057448f198378ab07a43d2d6868139914b9c272327507bbf2a51ee0205e", func := "leapfrog/leapfroglaw30.SessionOne", spec := "sessionOne", inPlace := ["sync/atomic.StoreUint64", "sync/atomic.LoadUint64", "sync/atomic.SwapUint64", "sync/atomic.CompareAndSwapUint64"], unfollowed := true, recurses := true, apart := false }
def SessionOneSaid : Prop := sessionOneRow.holds Tryz.pinned (OpenSpec.ofChange sessionOneSpec)

/-- ITS FALSE NEIGHBOUR: 'it returns false'. Refute it at one input. -/
def sessionOneWrong : ChangeSpec := { name := "sessionOne", fn := fun _ => fun
  | [d1, d2] => { results := [.lit (.bool false)], args := [d1, d2] }
  | _ => none }
def SessionOneWrongFalsely : Prop := sessionOneRow.holds Tryz.pinned (OpenSpec.ofChange sessionOneWrong)

/-- 'leapfroglaw30.SessionAll': WHATEVER THE INPUT: true; the input reads as it did. -/
def sessionAllSpec : ChangeSpec := { name := "sessionAll", fn := fun _ => fun
  | [d1, d2] => { results := [.lit (.bool true)], args := [d1, d2] }
  | _ => none }
def sessionAllRow : OpenClaim := { program := "ytjghenomeindcaagreat", sum := "61776057448f198378ab07a43d2d6868139914b9c272327507bbf2a51ee0205e", func := "leapfrog/leapfroglaw30.SessionAll", spec := "sessionAll", inPlace := ["sync/atomic.StoreUint64", "sync/atomic.LoadUint64", "sync/atomic.CompareAndSwapUint64", "sync/atomic.SwapUint64"], unfollowed := true, recurses := true, apart := false }
def SessionAllSaid : Prop := sessionAllRow.holds Tryz.pinned (OpenSpec.ofChange sessionAllSpec)

/-- ITS FALSE NEIGHBOUR: 'it returns false'. Refute it at one input. -/
def sessionAllWrong : ChangeSpec := { name := "sessionAll", fn := fun _ => fun
  | [d1, d2] => { results := [.lit (.bool false)], args := [d1, d2] }
  | _ => none }
def SessionAllWrongFalsely : Prop := sessionAllRow.holds Tryz.pinned (OpenSpec.ofChange sessionAllWrong)

/-- 'leapfroglaw14.PoolSteps': WHATEVER THE INPUT: true; the input reads as it did. -/
def poolStepsSpec : ChangeSpec := { name := "poolSteps", fn := fun _ => fun
  | [d1, d2] => { results := [.lit (.bool true)], args := [d1, d2] }
  | _ => none }
def poolStepsRow : OpenClaim := { program := "ytjghenomeindcaagreat", sum := "61776057448f198378ab07a43d2d6868139914b9c272327507bbf2a51ee0205e", func := "leapfrog/leapfroglaw14.PoolSteps", spec := "poolSteps", inPlace := ["sync/atomic.StoreUint64", "sync/atomic.LoadUint64", "sync/atomic.CompareAndSwapUint64", "sync/atomic.SwapUint64"], unfollowed := true, recurses := true, apart := false }
def PoolStepsSaid : Prop := poolStepsRow.holds Tryz.pinned (OpenSpec.ofChange poolStepsSpec)

/-- ITS FALSE NEIGHBOUR: 'it returns false'. Refute it at one input. -/
def poolStepsWrong : ChangeSpec := { name := "poolSteps", fn := fun _ => fun
  | [d1, d2] => { results := [.lit (.bool false)], args := [d1, d2] }
  | _ => none }
def PoolStepsWrongFalsely : Prop := poolStepsRow.holds Tryz.pinned (OpenSpec.ofChange poolStepsWrong)

/-- 'leapfroglaw30.SessionMatches': WHATEVER THE INPUT: true; the input reads as it did. -/
def sessionMatchesSpec : ChangeSpec := { name := "sessionMatches", fn := fun _ => fun
  | [d1, d2] => { results := [.lit (.bool true)], args := [d1, d2] }
  | _ => none }
def sessionMatchesRow : OpenClaim := { program := "ytjghenomeindcaagreat", sum := "61776057448f198378ab07a43d2d6868139914b9c272327507bbf2a51ee0205e", func := "leapfrog/leapfroglaw30.SessionMatches", spec := "sessionMatches", inPlace := ["sync/atomic.StoreUint64", "sync/atomic.LoadUint64", "sync/atomic.SwapUint64", "sync/atomic.CompareAndSwapUint64"], unfollowed := true, recurses := true, apart := false }
def SessionMatchesSaid : Prop := sessionMatchesRow.holds Tryz.pinned (OpenSpec.ofChange sessionMatchesSpec)

/-- ITS FALSE NEIGHBOUR: 'it returns false'. Refute it at one input. -/
def sessionMatchesWrong : ChangeSpec := { name := "sessionMatches", fn := fun _ => fun
  | [d1, d2] => { results := [.lit (.bool false)], args := [d1, d2] }
  | _ => none }
def SessionMatchesWrongFalsely : Prop := sessionMatchesRow.holds Tryz.pinned (OpenSpec.ofChange sessionMatchesWrong)

/- THE SECOND FORM. 'bulk': how many values and letters a reading holds, each counted each time it is reached (what is shared counts as often as it is met; a slice's spare places count too). A statement '..UptoSaid' is the law's where the arguments, and the package variables that the reading takes, are together of bulk at most 1048576: NARROWER than '..Said'. Prove '..Said' where nothing that the law and all that it calls make is longer than what came in: it says more and counts as full. Else prove '..UptoSaid'. A law counts once. -/
mutual
def uptoBulk {H : Type} : DataW H → Nat
  | .lit (.string bytes) => bytes.length + 1
  | .lit _ => 1
  | .nil => 1
  | .ptr d => uptoBulk d + 1
  | .slice elems spare => uptoBulkAll elems + uptoBulkAll spare + 1
  | .agg parts => uptoBulkAll parts + 1
  | .iface _ d => uptoBulk d + 1
  | .map entries => uptoBulkEntries entries + 1
  | .held _ => 1
def uptoBulkAll {H : Type} : List (DataW H) → Nat
  | [] => 0
  | d :: r => uptoBulk d + uptoBulkAll r
def uptoBulkEntries {H : Type} : List (Lit × DataW H) → Nat
  | [] => 0
  | x :: r => uptoBulkEntry x + uptoBulkEntries r
def uptoBulkEntry {H : Type} : Lit × DataW H → Nat
  | (.string bytes, d) => bytes.length + uptoBulk d + 1
  | (_, d) => uptoBulk d + 1
 end
def uptoSmall : (H : Type) → List (DataW H) → Bool := fun _ ds => decide (uptoBulkAll ds ≤ 1048576)
def OpenSpec.upto (s : _root_.Go.ChangeSpec) : _root_.Go.OpenSpec := { _root_.Go.OpenSpec.ofChange s with cond := some uptoSmall }

/-- 'leapfroglaw30.SessionNames', WHERE WHAT IT READS IS OF BULK AT MOST 1048576: true; the input reads as it did. -/
def sessionNamesUptoRow : OpenClaim := { program := "ytjghenomeindcaagreat", sum := "61776057448f198378ab07a43d2d6868139914b9c272327507bbf2a51ee0205e", func := "leapfrog/leapfroglaw30.SessionNames", spec := "sessionNames", inPlace := ["sync/atomic.LoadUint64", "sync/atomic.CompareAndSwapUint64", "sync/atomic.SwapUint64", "sync/atomic.StoreUint64"], unfollowed := true, recurses := true, apart := false, narrowed := true }
def SessionNamesUptoSaid : Prop := sessionNamesUptoRow.holds Tryz.pinned (OpenSpec.upto sessionNamesSpec)

/-- 'leapfroglaw30.SessionOne', WHERE WHAT IT READS IS OF BULK AT MOST 1048576: true; the input reads as it did. -/
def sessionOneUptoRow : OpenClaim := { program := "ytjghenomeindcaagreat", sum := "61776057448f198378ab07a43d2d6868139914b9c272327507bbf2a51ee0205e", func := "leapfrog/leapfroglaw30.SessionOne", spec := "sessionOne", inPlace := ["sync/atomic.StoreUint64", "sync/atomic.LoadUint64", "sync/atomic.SwapUint64", "sync/atomic.CompareAndSwapUint64"], unfollowed := true, recurses := true, apart := false, narrowed := true }
def SessionOneUptoSaid : Prop := sessionOneUptoRow.holds Tryz.pinned (OpenSpec.upto sessionOneSpec)

/-- 'leapfroglaw30.SessionAll', WHERE WHAT IT READS IS OF BULK AT MOST 1048576: true; the input reads as it did. -/
def sessionAllUptoRow : OpenClaim := { program := "ytjghenomeindcaagreat", sum := "61776057448f198378ab07a43d2d6868139914b9c272327507bbf2a51ee0205e", func := "leapfrog/leapfroglaw30.SessionAll", spec := "sessionAll", inPlace := ["sync/atomic.StoreUint64", "sync/atomic.LoadUint64", "sync/atomic.CompareAndSwapUint64", "sync/atomic.SwapUint64"], unfollowed := true, recurses := true, apart := false, narrowed := true }
def SessionAllUptoSaid : Prop := sessionAllUptoRow.holds Tryz.pinned (OpenSpec.upto sessionAllSpec)

/-- 'leapfroglaw14.PoolSteps', WHERE WHAT IT READS IS OF BULK AT MOST 1048576: true; the input reads as it did. -/
def poolStepsUptoRow : OpenClaim := { program := "ytjghenomeindcaagreat", sum := "61776057448f198378ab07a43d2d6868139914b9c272327507bbf2a51ee0205e", func := "leapfrog/leapfroglaw14.PoolSteps", spec := "poolSteps", inPlace := ["sync/atomic.StoreUint64", "sync/atomic.LoadUint64", "sync/atomic.CompareAndSwapUint64", "sync/atomic.SwapUint64"], unfollowed := true, recurses := true, apart := false, narrowed := true }
def PoolStepsUptoSaid : Prop := poolStepsUptoRow.holds Tryz.pinned (OpenSpec.upto poolStepsSpec)

/-- 'leapfroglaw30.SessionMatches', WHERE WHAT IT READS IS OF BULK AT MOST 1048576: true; the input reads as it did. -/
def sessionMatchesUptoRow : OpenClaim := { program := "ytjghenomeindcaagreat", sum := "61776057448f198378ab07a43d2d6868139914b9c272327507bbf2a51ee0205e", func := "leapfrog/leapfroglaw30.SessionMatches", spec := "sessionMatches", inPlace := ["sync/atomic.StoreUint64", "sync/atomic.LoadUint64", "sync/atomic.SwapUint64", "sync/atomic.CompareAndSwapUint64"], unfollowed := true, recurses := true, apart := false, narrowed := true }
def SessionMatchesUptoSaid : Prop := sessionMatchesUptoRow.holds Tryz.pinned (OpenSpec.upto sessionMatchesSpec)

end Rows
end Go.Proofs.YtjghenomeindcaaGreat
