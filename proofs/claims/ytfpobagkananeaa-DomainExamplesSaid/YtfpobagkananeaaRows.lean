/-
  No cell of these rows narrows 'for every input' (looked for: loops, veiled, ifaces, maps, wideKeys, modest, calm, conditions, laid).
  DERIVED. THE GIVEN ROWS OF THIS SEAT. 9 by the template 'for every input the law returns true; each argument reads behind the call as it read before'; 0 by the template 'total and deterministic' (their statements: YtfpobagkananeaaTotals.lean).
  GIVEN WITH THE SEED: the statements are not yours to turn. If you find one false, say at which input.
  Laid BY PROGRAM, IN A SANDBOX (cutbox-rows.mjs): the forced cells as the released guide's own fill.sh prints them over the translation 8611ae8ebc6755a1… (all of the seat's roots in one cut). By AI agents, Wed Nov 11 2026. No macro, syntax, notation, axiom, sorry.
-/
import Derived.Test.YtfpobagkananeaaChecked
import GoSem.Claim
import GoSem.ClaimJoined
import GoSem.ClaimMapViews
import Derived.JoinedTies
import Derived.KernelRfl
namespace Go.Proofs.Ytfpobagkananeaa
/- THE CELL 'sum', in the pinned program and in every row, IS THE sha256 OF THE DUMP (.gsa) THAT YtfpobagkananeaaProg.lean LOADS. Nothing in Lean hashes anything: it is a label: what it is worth is what the hold of that sum in a sandbox is worth. -/
noncomputable def Try.pinned : Pinned := { name := "ytfpobagkananeaa", sum := "8611ae8ebc6755a19671911f23cb3f78b3da8c0db6443df553406ea752d22874", checked := Try.checked }
namespace Rows
def none {H : Type} : Left H := { results := [], args := [] }

/-- 'leapfroglaw03.DomainMembers': WHATEVER THE INPUT: true; the input reads as it did. -/
def domainMembersSpec : ChangeSpec := { name := "domainMembers", fn := fun _ => fun
  | [d1, d2] => { results := [.lit (.bool true)], args := [d1, d2] }
  | _ => none }
def domainMembersRow : OpenClaim := { program := "ytfpobagkananeaa", sum := "8611ae8ebc6755a19671911f23cb3f78b3da8c0db6443df553406ea752d22874", func := "leapfrog/leapfroglaw03.DomainMembers", spec := "domainMembers", unfollowed := true, recurses := true, apart := false }
def DomainMembersSaid : Prop := domainMembersRow.holds Try.pinned (OpenSpec.ofChange domainMembersSpec)

/-- ITS FALSE NEIGHBOUR: 'it returns false'. Refute it at one input. -/
def domainMembersWrong : ChangeSpec := { name := "domainMembers", fn := fun _ => fun
  | [d1, d2] => { results := [.lit (.bool false)], args := [d1, d2] }
  | _ => none }
def DomainMembersWrongFalsely : Prop := domainMembersRow.holds Try.pinned (OpenSpec.ofChange domainMembersWrong)

/-- 'leapfroglaw03.DomainOf': WHATEVER THE INPUT: true; the input reads as it did. -/
def domainOfSpec : ChangeSpec := { name := "domainOf", fn := fun _ => fun
  | [d1, d2] => { results := [.lit (.bool true)], args := [d1, d2] }
  | _ => none }
def domainOfRow : OpenClaim := { program := "ytfpobagkananeaa", sum := "8611ae8ebc6755a19671911f23cb3f78b3da8c0db6443df553406ea752d22874", func := "leapfrog/leapfroglaw03.DomainOf", spec := "domainOf", unfollowed := true, recurses := true, apart := false }
def DomainOfSaid : Prop := domainOfRow.holds Try.pinned (OpenSpec.ofChange domainOfSpec)

/-- ITS FALSE NEIGHBOUR: 'it returns false'. Refute it at one input. -/
def domainOfWrong : ChangeSpec := { name := "domainOf", fn := fun _ => fun
  | [d1, d2] => { results := [.lit (.bool false)], args := [d1, d2] }
  | _ => none }
def DomainOfWrongFalsely : Prop := domainOfRow.holds Try.pinned (OpenSpec.ofChange domainOfWrong)

/-- 'leapfroglaw03.DomainLeast': WHATEVER THE INPUT: true; the input reads as it did. -/
def domainLeastSpec : ChangeSpec := { name := "domainLeast", fn := fun _ => fun
  | [d1, d2, d3] => { results := [.lit (.bool true)], args := [d1, d2, d3] }
  | _ => none }
def domainLeastRow : OpenClaim := { program := "ytfpobagkananeaa", sum := "8611ae8ebc6755a19671911f23cb3f78b3da8c0db6443df553406ea752d22874", func := "leapfrog/leapfroglaw03.DomainLeast", spec := "domainLeast", unfollowed := true, recurses := true, apart := false }
def DomainLeastSaid : Prop := domainLeastRow.holds Try.pinned (OpenSpec.ofChange domainLeastSpec)

/-- ITS FALSE NEIGHBOUR: 'it returns false'. Refute it at one input. -/
def domainLeastWrong : ChangeSpec := { name := "domainLeast", fn := fun _ => fun
  | [d1, d2, d3] => { results := [.lit (.bool false)], args := [d1, d2, d3] }
  | _ => none }
def DomainLeastWrongFalsely : Prop := domainLeastRow.holds Try.pinned (OpenSpec.ofChange domainLeastWrong)

/-- 'leapfroglaw03.DomainImages': WHATEVER THE INPUT: true; the input reads as it did. -/
def domainImagesSpec : ChangeSpec := { name := "domainImages", fn := fun _ => fun
  | [d1, d2] => { results := [.lit (.bool true)], args := [d1, d2] }
  | _ => none }
def domainImagesRow : OpenClaim := { program := "ytfpobagkananeaa", sum := "8611ae8ebc6755a19671911f23cb3f78b3da8c0db6443df553406ea752d22874", func := "leapfrog/leapfroglaw03.DomainImages", spec := "domainImages", unfollowed := true, recurses := true, apart := false }
def DomainImagesSaid : Prop := domainImagesRow.holds Try.pinned (OpenSpec.ofChange domainImagesSpec)

/-- ITS FALSE NEIGHBOUR: 'it returns false'. Refute it at one input. -/
def domainImagesWrong : ChangeSpec := { name := "domainImages", fn := fun _ => fun
  | [d1, d2] => { results := [.lit (.bool false)], args := [d1, d2] }
  | _ => none }
def DomainImagesWrongFalsely : Prop := domainImagesRow.holds Try.pinned (OpenSpec.ofChange domainImagesWrong)

/-- 'leapfroglaw03.DomainParts': WHATEVER THE INPUT: true; the input reads as it did. -/
def domainPartsSpec : ChangeSpec := { name := "domainParts", fn := fun _ => fun
  | [d1, d2, d3] => { results := [.lit (.bool true)], args := [d1, d2, d3] }
  | _ => none }
def domainPartsRow : OpenClaim := { program := "ytfpobagkananeaa", sum := "8611ae8ebc6755a19671911f23cb3f78b3da8c0db6443df553406ea752d22874", func := "leapfrog/leapfroglaw03.DomainParts", spec := "domainParts", unfollowed := true, recurses := true, apart := false }
def DomainPartsSaid : Prop := domainPartsRow.holds Try.pinned (OpenSpec.ofChange domainPartsSpec)

/-- ITS FALSE NEIGHBOUR: 'it returns false'. Refute it at one input. -/
def domainPartsWrong : ChangeSpec := { name := "domainParts", fn := fun _ => fun
  | [d1, d2, d3] => { results := [.lit (.bool false)], args := [d1, d2, d3] }
  | _ => none }
def DomainPartsWrongFalsely : Prop := domainPartsRow.holds Try.pinned (OpenSpec.ofChange domainPartsWrong)

/-- 'leapfroglaw03.DomainImage': WHATEVER THE INPUT: true; the input reads as it did. -/
def domainImageSpec : ChangeSpec := { name := "domainImage", fn := fun _ => fun
  | [d1, d2, d3] => { results := [.lit (.bool true)], args := [d1, d2, d3] }
  | _ => none }
def domainImageRow : OpenClaim := { program := "ytfpobagkananeaa", sum := "8611ae8ebc6755a19671911f23cb3f78b3da8c0db6443df553406ea752d22874", func := "leapfrog/leapfroglaw03.DomainImage", spec := "domainImage", unfollowed := true, recurses := true, apart := false }
def DomainImageSaid : Prop := domainImageRow.holds Try.pinned (OpenSpec.ofChange domainImageSpec)

/-- ITS FALSE NEIGHBOUR: 'it returns false'. Refute it at one input. -/
def domainImageWrong : ChangeSpec := { name := "domainImage", fn := fun _ => fun
  | [d1, d2, d3] => { results := [.lit (.bool false)], args := [d1, d2, d3] }
  | _ => none }
def DomainImageWrongFalsely : Prop := domainImageRow.holds Try.pinned (OpenSpec.ofChange domainImageWrong)

/-- 'leapfroglaw03.DomainBuckets': WHATEVER THE INPUT: true; the input reads as it did. -/
def domainBucketsSpec : ChangeSpec := { name := "domainBuckets", fn := fun _ => fun
  | [d1, d2, d3] => { results := [.lit (.bool true)], args := [d1, d2, d3] }
  | _ => none }
def domainBucketsRow : OpenClaim := { program := "ytfpobagkananeaa", sum := "8611ae8ebc6755a19671911f23cb3f78b3da8c0db6443df553406ea752d22874", func := "leapfrog/leapfroglaw03.DomainBuckets", spec := "domainBuckets", unfollowed := true, recurses := true, apart := false }
def DomainBucketsSaid : Prop := domainBucketsRow.holds Try.pinned (OpenSpec.ofChange domainBucketsSpec)

/-- ITS FALSE NEIGHBOUR: 'it returns false'. Refute it at one input. -/
def domainBucketsWrong : ChangeSpec := { name := "domainBuckets", fn := fun _ => fun
  | [d1, d2, d3] => { results := [.lit (.bool false)], args := [d1, d2, d3] }
  | _ => none }
def DomainBucketsWrongFalsely : Prop := domainBucketsRow.holds Try.pinned (OpenSpec.ofChange domainBucketsWrong)

/-- 'leapfroglaw03.DomainSets': WHATEVER THE INPUT: true; the input reads as it did. -/
def domainSetsSpec : ChangeSpec := { name := "domainSets", fn := fun _ => fun
  | [d1, d2, d3] => { results := [.lit (.bool true)], args := [d1, d2, d3] }
  | _ => none }
def domainSetsRow : OpenClaim := { program := "ytfpobagkananeaa", sum := "8611ae8ebc6755a19671911f23cb3f78b3da8c0db6443df553406ea752d22874", func := "leapfrog/leapfroglaw03.DomainSets", spec := "domainSets", unfollowed := true, recurses := true, apart := false }
def DomainSetsSaid : Prop := domainSetsRow.holds Try.pinned (OpenSpec.ofChange domainSetsSpec)

/-- ITS FALSE NEIGHBOUR: 'it returns false'. Refute it at one input. -/
def domainSetsWrong : ChangeSpec := { name := "domainSets", fn := fun _ => fun
  | [d1, d2, d3] => { results := [.lit (.bool false)], args := [d1, d2, d3] }
  | _ => none }
def DomainSetsWrongFalsely : Prop := domainSetsRow.holds Try.pinned (OpenSpec.ofChange domainSetsWrong)

/-- 'leapfroglaw03.DomainExamples': WHATEVER THE INPUT: true; the input reads as it did. -/
def domainExamplesSpec : ChangeSpec := { name := "domainExamples", fn := fun _ => fun
  | [] => { results := [.lit (.bool true)], args := [] }
  | _ => none }
def domainExamplesRow : OpenClaim := { program := "ytfpobagkananeaa", sum := "8611ae8ebc6755a19671911f23cb3f78b3da8c0db6443df553406ea752d22874", func := "leapfrog/leapfroglaw03.DomainExamples", spec := "domainExamples", unfollowed := true, recurses := true, apart := false }
def DomainExamplesSaid : Prop := domainExamplesRow.holds Try.pinned (OpenSpec.ofChange domainExamplesSpec)

/-- ITS FALSE NEIGHBOUR: 'it returns false'. Refute it at one input. -/
def domainExamplesWrong : ChangeSpec := { name := "domainExamples", fn := fun _ => fun
  | [] => { results := [.lit (.bool false)], args := [] }
  | _ => none }
def DomainExamplesWrongFalsely : Prop := domainExamplesRow.holds Try.pinned (OpenSpec.ofChange domainExamplesWrong)

/- THE SECOND FORM. 'bulk': how many values and letters a reading holds, each counted each time it is reached (what is shared counts as often as it is met; a slice's spare places count too). A statement '..UptoSaid' is the law's where the arguments, and the package variables that the reading takes, are together of bulk at most 1048576: NARROWER than '..Said'. Prove '..Said' where nothing that the law and all that it calls make is longer than what came in: it says more and counts as full. Else prove '..UptoSaid'. A law counts once. -/
mutual
def uptoBulk {H : Type} : DataW H → Nat
  | .lit (.string bytes) => bytes.length + 1
  | .lit _ => 1
  | .nil => 1
  | .ptr d => uptoBulk d + 1
  | .slice elems spare => uptoBulkAll elems + uptoBulkAll spare + 1
  | .agg parts => uptoBulkAll parts + 1
  | .iface _ d => uptoBulk d + 1
  | .map entries => uptoBulkEntries entries + 1
  | .held _ => 1
def uptoBulkAll {H : Type} : List (DataW H) → Nat
  | [] => 0
  | d :: r => uptoBulk d + uptoBulkAll r
def uptoBulkEntries {H : Type} : List (Lit × DataW H) → Nat
  | [] => 0
  | x :: r => uptoBulkEntry x + uptoBulkEntries r
def uptoBulkEntry {H : Type} : Lit × DataW H → Nat
  | (.string bytes, d) => bytes.length + uptoBulk d + 1
  | (_, d) => uptoBulk d + 1
 end
def uptoSmall : (H : Type) → List (DataW H) → Bool := fun _ ds => decide (uptoBulkAll ds ≤ 1048576)
def OpenSpec.upto (s : _root_.Go.ChangeSpec) : _root_.Go.OpenSpec := { _root_.Go.OpenSpec.ofChange s with cond := some uptoSmall }

/-- 'leapfroglaw03.DomainMembers', WHERE WHAT IT READS IS OF BULK AT MOST 1048576: true; the input reads as it did. -/
def domainMembersUptoRow : OpenClaim := { program := "ytfpobagkananeaa", sum := "8611ae8ebc6755a19671911f23cb3f78b3da8c0db6443df553406ea752d22874", func := "leapfrog/leapfroglaw03.DomainMembers", spec := "domainMembers", unfollowed := true, recurses := true, apart := false, narrowed := true }
def DomainMembersUptoSaid : Prop := domainMembersUptoRow.holds Try.pinned (OpenSpec.upto domainMembersSpec)

/-- 'leapfroglaw03.DomainOf', WHERE WHAT IT READS IS OF BULK AT MOST 1048576: true; the input reads as it did. -/
def domainOfUptoRow : OpenClaim := { program := "ytfpobagkananeaa", sum := "8611ae8ebc6755a19671911f23cb3f78b3da8c0db6443df553406ea752d22874", func := "leapfrog/leapfroglaw03.DomainOf", spec := "domainOf", unfollowed := true, recurses := true, apart := false, narrowed := true }
def DomainOfUptoSaid : Prop := domainOfUptoRow.holds Try.pinned (OpenSpec.upto domainOfSpec)

/-- 'leapfroglaw03.DomainLeast', WHERE WHAT IT READS IS OF BULK AT MOST 1048576: true; the input reads as it did. -/
def domainLeastUptoRow : OpenClaim := { program := "ytfpobagkananeaa", sum := "8611ae8ebc6755a19671911f23cb3f78b3da8c0db6443df553406ea752d22874", func := "leapfrog/leapfroglaw03.DomainLeast", spec := "domainLeast", unfollowed := true, recurses := true, apart := false, narrowed := true }
def DomainLeastUptoSaid : Prop := domainLeastUptoRow.holds Try.pinned (OpenSpec.upto domainLeastSpec)

/-- 'leapfroglaw03.DomainImages', WHERE WHAT IT READS IS OF BULK AT MOST 1048576: true; the input reads as it did. -/
def domainImagesUptoRow : OpenClaim := { program := "ytfpobagkananeaa", sum := "8611ae8ebc6755a19671911f23cb3f78b3da8c0db6443df553406ea752d22874", func := "leapfrog/leapfroglaw03.DomainImages", spec := "domainImages", unfollowed := true, recurses := true, apart := false, narrowed := true }
def DomainImagesUptoSaid : Prop := domainImagesUptoRow.holds Try.pinned (OpenSpec.upto domainImagesSpec)

/-- 'leapfroglaw03.DomainParts', WHERE WHAT IT READS IS OF BULK AT MOST 1048576: true; the input reads as it did. -/
def domainPartsUptoRow : OpenClaim := { program := "ytfpobagkananeaa", sum := "8611ae8ebc6755a19671911f23cb3f78b3da8c0db6443df553406ea752d22874", func := "leapfrog/leapfroglaw03.DomainParts", spec := "domainParts", unfollowed := true, recurses := true, apart := false, narrowed := true }
def DomainPartsUptoSaid : Prop := domainPartsUptoRow.holds Try.pinned (OpenSpec.upto domainPartsSpec)

/-- 'leapfroglaw03.DomainImage', WHERE WHAT IT READS IS OF BULK AT MOST 1048576: true; the input reads as it did. -/
def domainImageUptoRow : OpenClaim := { program := "ytfpobagkananeaa", sum := "8611ae8ebc6755a19671911f23cb3f78b3da8c0db6443df553406ea752d22874", func := "leapfrog/leapfroglaw03.DomainImage", spec := "domainImage", unfollowed := true, recurses := true, apart := false, narrowed := true }
def DomainImageUptoSaid : Prop := domainImageUptoRow.holds Try.pinned (OpenSpec.upto domainImageSpec)

/-- 'leapfroglaw03.DomainBuckets', WHERE WHAT IT READS IS OF BULK AT MOST 1048576: true; the input reads as it did. -/
def domainBucketsUptoRow : OpenClaim := { program := "ytfpobagkananeaa", sum := "8611ae8ebc6755a19671911f23cb3f78b3da8c0db6443df553406ea752d22874", func := "leapfrog/leapfroglaw03.DomainBuckets", spec := "domainBuckets", unfollowed := true, recurses := true, apart := false, narrowed := true }
def DomainBucketsUptoSaid : Prop := domainBucketsUptoRow.holds Try.pinned (OpenSpec.upto domainBucketsSpec)

/-- 'leapfroglaw03.DomainSets', WHERE WHAT IT READS IS OF BULK AT MOST 1048576: true; the input reads as it did. -/
def domainSetsUptoRow : OpenClaim := { program := "ytfpobagkananeaa", sum := "8611ae8ebc6755a19671911f23cb3f78b3da8c0db6443df553406ea752d22874", func := "leapfrog/leapfroglaw03.DomainSets", spec := "domainSets", unfollowed := true, recurses := true, apart := false, narrowed := true }
def DomainSetsUptoSaid : Prop := domainSetsUptoRow.holds Try.pinned (OpenSpec.upto domainSetsSpec)

/-- 'leapfroglaw03.DomainExamples', WHERE WHAT IT READS IS OF BULK AT MOST 1048576: true; the input reads as it did. -/
def domainExamplesUptoRow : OpenClaim := { program := "ytfpobagkananeaa", sum := "8611ae8ebc6755a19671911f23cb3f78b3da8c0db6443df553406ea752d22874", func := "leapfrog/leapfroglaw03.DomainExamples", spec := "domainExamples", unfollowed := true, recurses := true, apart := false, narrowed := true }
def DomainExamplesUptoSaid : Prop := domainExamplesUptoRow.holds Try.pinned (OpenSpec.upto domainExamplesSpec)

end Rows
end Go.Proofs.Ytfpobagkananeaa
