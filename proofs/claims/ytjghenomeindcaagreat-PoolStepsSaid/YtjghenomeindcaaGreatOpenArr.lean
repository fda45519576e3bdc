/- Arguments opened: arrays of numbers. -/
import Derived.Test.YtjghenomeindcaaGreatProg
import Derived.Test.YtjghenomeindcaaGreatOpenBase
import Derived.ProofKit
import Derived.OpenShut
namespace Go.Proofs.YtjghenomeindcaaGreat
open Go.RowKit Go.Lf Go.ChangeShapes Go.WideShapes Go.ChangeAt

set_option maxRecDepth 100000 in
theorem open_arr {H : Type} {enc : TypeId × Value → H} {W : World} {t e : TypeId} {n : Nat} {k : IntKind} {v : Value} {d : DataW H} {p : List MemPlace} {base : Nat} (ht : Tryz.prog.underlying t = some (.array n e)) (he : Tryz.prog.underlying e = some (.int k)) (hce : Tryz.prog.cellsOf e = 1) (hct : Tryz.prog.cellsOf t = n)
    (hv : Value.okWide Tryz.prog W .any base t v) (h : DataW.Trod enc Tryz.prog W 0 (fun _ => true) true t v d p) :
    ∃ zs : List Int, v = .agg (zs.map (Value.int k)).toArray ∧ zs.length = n ∧ ∀ z ∈ zs, (Lit.int k z).wf = true := by
  simp only [Value.okWide, ht] at hv
  obtain ⟨cs, rfl, hs, -⟩ := hv
  obtain ⟨fuel, hf⟩ := h
  obtain ⟨xs, m, -, -, hl, hxl, hel⟩ := DataW.trod_array ht hf
  rw [hce] at hel
  have key : ∀ i, i < n → ∃ z : Int, cs.toList[i]? = some (.int k z) ∧ (Lit.int k z).wf = true := by
    intro i hi
    obtain ⟨x, hx⟩ : ∃ x, xs[i]? = some x := ⟨_, List.getElem?_eq_getElem (by omega)⟩
    have hq := hel i hi
    rw [hx, Nat.mul_one] at hq
    obtain ⟨z, hz, -, hw⟩ := DataW.trod_int he hq
    have hc := one_field hz
    simp only [Value.cells] at hc
    exact ⟨z, hc, hw⟩
  obtain ⟨zs, hzl, hz⟩ := list_of n key
  have hcl : cs.toList.length = n := by rw [Array.length_toList]; exact hs.trans hct
  have he' : cs.toList = zs.map (Value.int k) := by
    apply List.ext_getElem?
    intro i
    by_cases hi : i < n
    · obtain ⟨y, hy⟩ : ∃ y, zs[i]? = some y := ⟨_, List.getElem?_eq_getElem (by omega)⟩
      rw [(hz i y hy).1, List.getElem?_map, hy]
      rfl
    · rw [List.getElem?_eq_none (by omega), List.getElem?_eq_none (by rw [List.length_map]; omega)]
  refine ⟨zs, by rw [← he'], hzl, fun z hmem => ?_⟩
  obtain ⟨i, hi⟩ := List.getElem?_of_mem hmem
  exact (hz i z hi).2
end Go.Proofs.YtjghenomeindcaaGreat
