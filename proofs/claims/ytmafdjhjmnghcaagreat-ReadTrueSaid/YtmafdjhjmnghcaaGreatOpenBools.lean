/- Arguments opened: slices of Booleans. -/
import Derived.Test.YtmafdjhjmnghcaaGreatProg
import Derived.Test.YtmafdjhjmnghcaaGreatOpenBase
import Derived.ProofKit
import Derived.OpenShut
set_option linter.unusedVariables false
namespace Go.Lf
open Go.RowKit
def boolCells (l : List Bool) : List Value := l.flatMap fun b => [Value.bool b]
theorem boolCells_at {l : List Bool} {k : Nat} {b : Bool} (h : l[k]? = some b) : (boolCells l)[k]? = some (.bool b) := by
  have : ∀ l : List Bool, boolCells l = l.map Value.bool := fun l => by
    induction l with
    | nil => rfl
    | cons a l ih => rw [List.map_cons, ← ih]; rfl
  rw [this, List.getElem?_map, h]; rfl
end Go.Lf
namespace Go.Proofs.YtmafdjhjmnghcaaGreat
open Go.RowKit Go.Lf Go.ChangeShapes Go.WideShapes Go.ChangeAt
set_option maxRecDepth 100000
theorem open_bools {H : Type} {enc : TypeId × Value → H} {W : World} {v : Value} {d : DataW H} {p : List MemPlace} {base : Nat}
    (hv : Value.okWide Tryz.prog W .any base 67 v) (h : DataW.Trod enc Tryz.prog W 0 (fun _ => true) true 67 v d p) :
    ∃ zs : List Bool, Rd W 1 v zs.length (boolCells zs) ∧ (∀ y ∈ zs, True) ∧ zs.length ≤ maxLen :=
  open_flat (wf := fun _ => True) 1 Tryz.underlying67 (by kernel_rfl) (by decide) (fun _ => rfl) (fun _ _ _ h => by
    obtain ⟨v, e, -⟩ := DataW.trod_bool Tryz.underlying4 h
    exact ⟨v, e, trivial⟩) hv h
end Go.Proofs.YtmafdjhjmnghcaaGreat
