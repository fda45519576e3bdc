/- full: the engine with its memory, both made since a world. -/
import Derived.Test.YtckopbjejjeknaaFullErrs
namespace Go.Proofs.Ytckopbjejjeknaa
open Go.RowKit Go.Lf
structure FEx (w wr : World) (g nb bb mb : Nat) (F : Nat → Prop) (base : Int) (nums : List Int) (beg : List Bool) (ws : List Int) (log : List Acc) : Prop where
  sys : FSys wr g nb bb mb F base nums beg ws log
  own : Own w F wr
  og : w.heap.size ≤ g
  onb : w.heap.size ≤ nb
  obb : w.heap.size ≤ bb
section
variable {w wr w' : World} {g nb bb mb : Nat} {F F' S : Nat → Prop} {base : Int} {nums nums' ws ws' : List Int} {beg beg' : List Bool} {log log' : List Acc}
theorem FEx.quiet (h : FEx w wr g nb bb mb F base nums beg ws log) (hk : Keep Nil wr w') : FEx w w' g nb bb mb F base nums beg ws log :=
  ⟨h.sys.keep hk (fun _ _ h => h) (fun h => h) (fun h => h) (fun h => h), h.own.quiet hk, h.og, h.onb, h.obb⟩
theorem FEx.adv (h : FEx w wr g nb bb mb F base nums beg ws log) (hs : FSys w' g nb bb mb F' base nums' beg' ws' log') (hk : Keep S wr w') (hf : Foot wr F F') (hS : ∀ k, S k → F k ∨ w.heap.size ≤ k) : FEx w w' g nb bb mb F' base nums' beg' ws' log' := by
  refine ⟨hs, ⟨h.own.1.trans hk (fun j hj hSj => ?_), h.own.2.trans h.own.1 hf⟩, h.og, h.onb, h.obb⟩
  rcases hS j hSj with e | e
  · rcases h.own.2 j e with h' | h'
    · exact h'
    · exact absurd hj (by omega)
  · exact absurd hj (by omega)
theorem FEx.new (hk : Keep Nil w wr) (hm : MemAt wr mb F ws log) (hF : Foot w Nil F) (he : EngAt w' g nb bb mb base nums beg) (k2 : Keep Nil wr w') (l1 : wr.heap.size ≤ g) (l2 : wr.heap.size ≤ nb) (l3 : wr.heap.size ≤ bb) : FEx w w' g nb bb mb F base nums beg ws log := by
  have nF : ∀ k : Nat, wr.heap.size ≤ k → ¬ F k := fun k h hF => by have := hm.lt k hF; omega
  have := hk.size
  exact ⟨⟨hm.keep k2 (fun _ _ h => h), he, nF g l1, nF nb l2, nF bb l3⟩, ⟨hk.trans k2 (fun _ _ h => h), hF⟩, by omega, by omega, by omega⟩
theorem FEx.old (h : FEx w wr g nb bb mb F base nums beg ws log) : w.heap.size ≤ wr.heap.size := h.own.1.size
end
end Go.Proofs.Ytckopbjejjeknaa
