/- Arguments opened: what can be read of a slice of integers that came in. -/
import Derived.Test.YtldjlcdccnnogaaGreatBase
import Derived.ProofKit
import Derived.Deep.Slices
namespace Go.Lf
open Go.RowKit Go.ChangeShapes Go.WideShapes Go.ChangeAt

theorem open_ints_rd {H : Type} {enc : TypeId × Value → H} {P : Program} {W : World} {t e : TypeId} {k : IntKind} {v : Value} {d : DataW H} {p : List MemPlace} {base : Nat} (ht : P.underlying t = some (.slice e)) (he : P.underlying e = some (.int k)) (hc : P.cellsOf e = 1)
    (hv : Value.okWide P W .any base t v) (h : DataW.Trod enc P W 0 (fun _ => true) true t v d p) :
    ∃ zs : List Int, Rd W 1 v zs.length (zs.map (Value.int k)) ∧ (∀ n ∈ zs, (Lit.int k n).wf = true) ∧ zs.length ≤ maxLen := by
  obtain ⟨a, len, cap, rfl⟩ := okWide_slice ht hv
  obtain ⟨fuel, hf⟩ := h
  rcases open_ints ht he hc hf with ⟨hcs, _⟩ | ⟨x, l, c, zs, hcs, _, hl, hm, hz, _, hcell, hwz⟩
  · simp [Value.cells] at hcs
    obtain ⟨rfl, rfl, rfl⟩ := hcs
    exact ⟨[], ⟨_, _, rfl, by simp, .inl ⟨rfl, rfl, rfl⟩⟩, by simp, Nat.zero_le _⟩
  · simp [Value.cells] at hcs
    obtain ⟨rfl, rfl, rfl⟩ := hcs
    have hz' : zs.length = cap := by simpa using hz
    have hlen : (zs.take len).length = len := by rw [List.length_take]; omega
    refine ⟨zs.take len, ?_, fun n hn => hwz n (List.mem_of_mem_take hn), by omega⟩
    rw [hlen]
    obtain ⟨b, off, sp⟩ := x
    refine ⟨_, cap, rfl, by rw [List.length_map, hlen, Nat.mul_one], ?_⟩
    rcases Nat.eq_zero_or_pos zs.length with h0 | h0
    · rcases sp with _ | s
      · exact .inr <| .inr ⟨⟨_, rfl⟩, by omega⟩
      · exact .inr <| .inr ⟨⟨_, rfl⟩, by omega⟩
    · have h1 := hcell 0 h0
      have hsp : sp = none := by simpa [Addr.add] using World.cell?_spot h1
      subst hsp
      refine .inr <| .inl ⟨b, off, rfl, fun j u hu => ?_⟩
      rw [List.getElem?_map] at hu
      obtain ⟨y, hy, rfl⟩ := Option.map_eq_some_iff.1 hu
      have hj := (List.getElem?_eq_some_iff.1 hy).1
      have h2 := hcell j (by omega)
      rw [addr_add] at h2
      rw [h2]
      rw [List.getElem?_take] at hy
      split at hy
      · simp [hy]
      · cases hy

/-- From a fact for each index to a list. -/
theorem list_of {α : Type} {p : Nat → α → Prop} (n : Nat) (h : ∀ i, i < n → ∃ y, p i y) : ∃ zs : List α, zs.length = n ∧ ∀ i y, zs[i]? = some y → p i y := by
  induction n with
  | zero => exact ⟨[], rfl, by simp⟩
  | succ n ih =>
    obtain ⟨zs, hl, hz⟩ := ih (fun i hi => h i (by omega))
    obtain ⟨y, hy⟩ := h n (by omega)
    refine ⟨zs ++ [y], by simp [hl], fun i x hx => ?_⟩
    rcases Nat.lt_trichotomy i n with hi | hi | hi
    · rw [List.getElem?_append_left (by omega)] at hx; exact hz i x hx
    · subst hi; rw [List.getElem?_append_right (by omega), hl, Nat.sub_self] at hx; simp at hx; subst hx; exact hy
    · rw [List.getElem?_eq_none (by simp; omega)] at hx; cases hx

theorem flat_at {α : Type} {cells : α → List Value} {size : Nat} (hlen : ∀ y, (cells y).length = size) : ∀ (zs : List α) (j : Nat) (u : Value), (zs.flatMap cells)[j]? = some u →
    ∃ i y k, zs[i]? = some y ∧ (cells y)[k]? = some u ∧ k < size ∧ j = i * size + k := by
  intro zs
  induction zs with
  | nil => intro j u h; simp at h
  | cons z zs ih =>
    intro j u h
    rw [List.flatMap_cons] at h
    rcases Nat.lt_or_ge j (cells z).length with hj | hj
    · rw [List.getElem?_append_left hj] at h
      exact ⟨0, z, j, rfl, h, by rw [← hlen z]; exact hj, by omega⟩
    · rw [List.getElem?_append_right hj] at h
      obtain ⟨i, y, k, h1, h2, h3, h4⟩ := ih _ _ h
      refine ⟨i + 1, y, k, by simpa using h1, h2, h3, ?_⟩
      rw [hlen] at h4 hj
      rw [Nat.add_mul]
      omega

theorem length_flat {α : Type} {cells : α → List Value} {size : Nat} (hlen : ∀ y, (cells y).length = size) (zs : List α) : (zs.flatMap cells).length = zs.length * size := by
  induction zs with
  | nil => simp
  | cons z zs ih => rw [List.flatMap_cons, List.length_append, ih, hlen, List.length_cons, Nat.add_mul]; omega

/-- A slice of flat elements that came in. -/
theorem open_flat {α : Type} {cells : α → List Value} {wf : α → Prop} {H : Type} {enc : TypeId × Value → H} {P : Program} {W : World} {t e : TypeId} {v : Value} {d : DataW H} {p : List MemPlace} {base : Nat} (size : Nat)
    (ht : P.underlying t = some (.slice e)) (hc : P.cellsOf e = size) (h0 : 0 < size) (hlen : ∀ y, (cells y).length = size)
    (hel : ∀ n cs' x, DataW.trod enc P W 0 (fun _ => true) true n e cs' = some x → ∃ y : α, cs' = cells y ∧ wf y)
    (hv : Value.okWide P W .any base t v) (h : DataW.Trod enc P W 0 (fun _ => true) true t v d p) :
    ∃ zs : List α, Rd W size v zs.length (zs.flatMap cells) ∧ (∀ y ∈ zs, wf y) ∧ zs.length ≤ maxLen := by
  obtain ⟨a, len, cap, rfl⟩ := okWide_slice ht hv
  obtain ⟨fuel, hf⟩ := h
  rcases Go.Deep.open_slice ht hf with ⟨hcs, _⟩ | ⟨x, l, c, m, n, D, Pl, hcs, _, hl, hm, hmm, _, hx⟩
  · simp [Value.cells] at hcs
    obtain ⟨rfl, rfl, rfl⟩ := hcs
    exact ⟨[], ⟨_, _, rfl, by simp, .inl ⟨rfl, rfl, rfl⟩⟩, by simp, Nat.zero_le _⟩
  · simp [Value.cells] at hcs
    obtain ⟨rfl, rfl, rfl⟩ := hcs
    simp at hmm
    subst hmm
    obtain ⟨zs, hz, hzs⟩ := list_of (p := fun i y => W.cells? 0 (x.add (i * size)) size = some (cells y) ∧ wf y) len (fun i hi => by
      obtain ⟨cs', h1, h2⟩ := hx i (by omega)
      obtain ⟨y, rfl, hy⟩ := hel _ _ _ h2
      exact ⟨y, by rw [hc] at h1; exact h1, hy⟩)
    refine ⟨zs, ?_, fun y hy => ?_, by omega⟩
    · rw [hz]
      refine ⟨_, _, rfl, by rw [length_flat hlen, hz], ?_⟩
      obtain ⟨b, off, sp⟩ := x
      rcases Nat.eq_zero_or_pos len with h1 | h1
      · exact .inr <| .inr ⟨⟨_, rfl⟩, h1⟩
      · obtain ⟨y, hy⟩ : ∃ y, zs[0]? = some y := ⟨_, List.getElem?_eq_getElem (by omega)⟩
        have h2 := (World.cells?_some (hzs 0 y hy).1).2.2 0 h0
        have hsp : sp = none := by
          rw [show (cells y)[0]? = some ((cells y)[0]'(by rw [hlen]; exact h0)) from List.getElem?_eq_getElem _] at h2
          have h3 := World.cell?_spot h2
          unfold Addr.add at h3
          cases sp <;> simp_all
        subst hsp
        refine .inr <| .inl ⟨b, off, rfl, fun j u hu => ?_⟩
        obtain ⟨i, y, k, h3, h4, h5, rfl⟩ := flat_at hlen zs j u hu
        have h6 := (World.cells?_some (hzs i y h3).1).2.2 k h5
        rw [addr_add, addr_add] at h6
        rw [← Nat.add_assoc, h6, h4]
    · obtain ⟨i, hi⟩ := List.getElem?_of_mem hy
      exact (hzs i y hi).2

/-- A field of one cell. -/
theorem one_field {cs : List Value} {i : Nat} {v : Value} (h : (cs.drop i).take 1 = [v]) : cs[i]? = some v := by
  have : ((cs.drop i).take 1)[0]? = some v := by rw [h]; rfl
  simpa [List.getElem?_take, List.getElem?_drop] using this
end Go.Lf
