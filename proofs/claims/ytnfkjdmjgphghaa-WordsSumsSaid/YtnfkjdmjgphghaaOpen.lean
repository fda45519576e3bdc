/- Arguments opened: what can be read of a slice of integers that came in. -/
import Derived.Test.YtnfkjdmjgphghaaBase
import Derived.ProofKit
namespace Go.Lf
open Go.RowKit Go.ChangeShapes Go.WideShapes Go.ChangeAt

theorem open_ints_rd {H : Type} {enc : TypeId × Value → H} {P : Program} {W : World} {t e : TypeId} {k : IntKind} {v : Value} {d : DataW H} {p : List MemPlace} {base : Nat} (ht : P.underlying t = some (.slice e)) (he : P.underlying e = some (.int k)) (hc : P.cellsOf e = 1)
    (hv : Value.okWide P W .any base t v) (h : DataW.Trod enc P W 0 (fun _ => true) true t v d p) :
    ∃ zs : List Int, Rd W 1 v zs.length (zs.map (Value.int k)) ∧ (∀ n ∈ zs, (Lit.int k n).wf = true) ∧ zs.length ≤ maxLen := by
  obtain ⟨a, len, cap, rfl⟩ := okWide_slice ht hv
  obtain ⟨fuel, hf⟩ := h
  rcases open_ints ht he hc hf with ⟨hcs, _⟩ | ⟨x, l, c, zs, hcs, _, hl, hm, hz, _, hcell, hwz⟩
  · simp [Value.cells] at hcs
    obtain ⟨rfl, rfl, rfl⟩ := hcs
    exact ⟨[], ⟨_, _, rfl, rfl, .inl ⟨rfl, rfl, rfl⟩⟩, by simp, Nat.zero_le _⟩
  · simp [Value.cells] at hcs
    obtain ⟨rfl, rfl, rfl⟩ := hcs
    have hz' : zs.length = cap := by simpa using hz
    have hlen : (zs.take len).length = len := by rw [List.length_take]; omega
    refine ⟨zs.take len, ?_, fun n hn => hwz n (List.mem_of_mem_take hn), by omega⟩
    rw [hlen]
    obtain ⟨b, off, sp⟩ := x
    refine ⟨_, cap, rfl, by rw [List.length_map, hlen, Nat.mul_one], ?_⟩
    rcases Nat.eq_zero_or_pos zs.length with h0 | h0
    · rcases sp with _ | s
      · exact .inr <| .inr ⟨⟨_, rfl⟩, by omega⟩
      · exact .inr <| .inr ⟨⟨_, rfl⟩, by omega⟩
    · have h1 := hcell 0 h0
      have hsp : sp = none := by simpa [Addr.add] using World.cell?_spot h1
      subst hsp
      refine .inr <| .inl ⟨b, off, rfl, fun j u hu => ?_⟩
      rw [List.getElem?_map] at hu
      obtain ⟨y, hy, rfl⟩ := Option.map_eq_some_iff.1 hu
      have hj := (List.getElem?_eq_some_iff.1 hy).1
      have h2 := hcell j (by omega)
      rw [addr_add] at h2
      rw [h2]
      rw [List.getElem?_take] at hy
      split at hy
      · simp [hy]
      · cases hy
end Go.Lf
