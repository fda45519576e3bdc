/- Buckets of a set in plain terms. No program is named here. -/
import Derived.Test.YtldjlcdccnnogaaGreatDomPlain
import Derived.Lib.SlicesCompact
set_option linter.unusedVariables false
set_option linter.unusedSimpArgs false
namespace Go.Lf
open Go.RowKit
/-- Whether a set has a value in a bucket. -/
def inB (s n b : Nat) : Bool := (List.range 64).any fun v => (v % n == b) && s.testBit v
def bktTo (s n k : Nat) : List Nat := (List.range k).filter (inB s n)
/-- The buckets of the values of a set. -/
def bkts (s n : Nat) : List Nat := bktTo s n n
theorem bktTo_succ (s n k : Nat) : bktTo s n (k + 1) = if inB s n k = true then bktTo s n k ++ [k] else bktTo s n k := by
  unfold bktTo
  rw [List.range_succ, List.filter_append]
  by_cases h : inB s n k = true <;> simp [h]
theorem bktTo_len (s n k : Nat) : (bktTo s n k).length ≤ k := by
  have := List.length_filter_le (inB s n) (List.range k)
  simpa [bktTo] using this
theorem mem_bkts {s n b : Nat} : b ∈ bkts s n ↔ b < n ∧ inB s n b = true := by simp [bkts, bktTo]
theorem inB_iff {s n b : Nat} : inB s n b = true ↔ ∃ v, v < 64 ∧ v % n = b ∧ s.testBit v = true := by
  simp only [inB, List.any_eq_true, List.mem_range, Bool.and_eq_true, beq_iff_eq]
def hasB (s n b j : Nat) : Bool := (List.range j).any fun i => s.testBit (b + i * n)
theorem hasB_zero (s n b : Nat) : hasB s n b 0 = false := rfl
theorem hasB_succ (s n b j : Nat) : hasB s n b (j + 1) = (hasB s n b j || s.testBit (b + j * n)) := by
  unfold hasB
  rw [List.range_succ, List.any_append]
  simp
theorem hasB_end {s n b j : Nat} (hn : 0 < n) (hb : b < n) (h : 64 ≤ b + j * n) (hs : s < 18446744073709551616) : hasB s n b j = inB s n b := by
  rw [Bool.eq_iff_iff, inB_iff]
  unfold hasB
  simp only [List.any_eq_true, List.mem_range]
  constructor
  · rintro ⟨i, hi, ht⟩
    refine ⟨b + i * n, ?_, ?_, ht⟩
    · rcases Nat.lt_or_ge (b + i * n) 64 with h' | h'
      · exact h'
      · rw [Nat.testBit_lt_two_pow (Nat.lt_of_lt_of_le hs (Nat.pow_le_pow_right (n := 2) (by decide) h'))] at ht
        cases ht
    · rw [Nat.add_mul_mod_self_right]; exact Nat.mod_eq_of_lt hb
  · rintro ⟨v, hv, hm, ht⟩
    have hd := Nat.mod_add_div v n
    refine ⟨v / n, ?_, ?_⟩
    · refine Nat.lt_of_not_le fun hle => ?_
      have := Nat.mul_le_mul_right n hle
      rw [Nat.mul_comm (v / n) n] at this
      omega
    · rw [← hm, Nat.mul_comm]; rw [hd]; exact ht
/-- The values' buckets, one for each value. -/
def bmapTo (s n k : Nat) : List Nat := (mems s k).map (· % n)
theorem asc_eq : ∀ {l m : List Int}, l.Pairwise (· < ·) → m.Pairwise (· < ·) → (∀ x, x ∈ l ↔ x ∈ m) → l = m := by
  intro l
  induction l with
  | nil =>
    intro m _ _ h
    cases m with
    | nil => rfl
    | cons y m => exact absurd ((h y).2 (List.mem_cons_self ..)) (by simp)
  | cons x l ih =>
    intro m hl hm h
    cases m with
    | nil => exact absurd ((h x).1 (List.mem_cons_self ..)) (by simp)
    | cons y m =>
      rw [List.pairwise_cons] at hl hm
      have hxy : x = y := by
        have h1 := (h x).1 (List.mem_cons_self ..)
        have h2 := (h y).2 (List.mem_cons_self ..)
        rw [List.mem_cons] at h1 h2
        rcases h1 with e | e
        · exact e
        · rcases h2 with e' | e'
          · exact e'.symm
          · have := hm.1 x e; have := hl.1 y e'; omega
      subst hxy
      congr 1
      refine ih hl.2 hm.2 fun z => ⟨fun hz => ?_, fun hz => ?_⟩
      · have := (h z).1 (List.mem_cons_of_mem _ hz)
        rw [List.mem_cons] at this
        rcases this with e | e
        · subst e; have := hl.1 z hz; omega
        · exact e
      · have := (h z).2 (List.mem_cons_of_mem _ hz)
        rw [List.mem_cons] at this
        rcases this with e | e
        · subst e; have := hm.1 z hz; omega
        · exact e
theorem compactUpTo_spec {l : List Int} (hs : ∀ i j, i ≤ j → j < l.length → l[i]! ≤ l[j]!) : ∀ m, m ≤ l.length → (Go.Lib.compactUpTo l.toArray m).Pairwise (· < ·) ∧ ∀ x, x ∈ Go.Lib.compactUpTo l.toArray m ↔ ∃ j, j < m ∧ l[j]! = x := by
  intro m
  induction m with
  | zero => intro _; exact ⟨by simp [Go.Lib.compactUpTo], fun x => by simp [Go.Lib.compactUpTo]⟩
  | succ m ih =>
    intro hm
    obtain ⟨h1, h2⟩ := ih (by omega)
    have hget : ∀ j, l.toArray[j]! = l[j]! := fun j => List.getElem!_toArray
    rw [Go.Lib.compactUpTo_succ]
    by_cases hk : Go.Lib.keeps l.toArray m = true
    · rw [if_pos hk]
      rw [hget]
      have hlt : ∀ x ∈ Go.Lib.compactUpTo l.toArray m, x < l[m]! := by
        intro x hx
        obtain ⟨j, hj, rfl⟩ := (h2 x).1 hx
        simp only [Go.Lib.keeps, decide_eq_true_eq, hget] at hk
        rcases hk with e | e
        · omega
        · have a := hs j (m - 1) (by omega) (by omega)
          have b := hs (m - 1) m (by omega) (by omega)
          omega
      refine ⟨List.pairwise_append.2 ⟨h1, by simp, fun x hx y hy => by rw [List.mem_singleton] at hy; subst hy; exact hlt x hx⟩, fun x => ?_⟩
      rw [List.mem_append, h2, List.mem_singleton]
      constructor
      · rintro (⟨j, hj, e⟩ | e)
        · exact ⟨j, by omega, e⟩
        · exact ⟨m, by omega, e.symm⟩
      · rintro ⟨j, hj, e⟩
        by_cases hjm : j = m
        · subst hjm; exact .inr e.symm
        · exact .inl ⟨j, by omega, e⟩
    · rw [if_neg hk, List.append_nil]
      refine ⟨h1, fun x => ?_⟩
      rw [h2]
      constructor
      · rintro ⟨j, hj, e⟩; exact ⟨j, by omega, e⟩
      · rintro ⟨j, hj, e⟩
        by_cases hjm : j = m
        · subst hjm
          have hk' : ¬ (j = 0 ∨ l[j]! ≠ l[j - 1]!) := by simpa [Go.Lib.keeps, hget] using hk
          exact ⟨j - 1, by omega, by rw [← e]; exact (Classical.not_not.1 (fun h => hk' (.inr h))).symm⟩
        · exact ⟨j, by omega, e⟩
theorem bkts_eq {s n : Nat} (hn : 0 < n) (hs : s < 18446744073709551616) : Go.Lib.compact ((ints (bmapTo s n 64)).mergeSort fun x y => decide (x ≤ y)) = ints (bkts s n) := by
  obtain ⟨l, hl⟩ : ∃ l, l = (ints (bmapTo s n 64)).mergeSort fun x y => decide (x ≤ y) := ⟨_, rfl⟩
  have hp : l.Perm (ints (bmapTo s n 64)) := by rw [hl]; exact List.mergeSort_perm _ _
  have hpw : l.Pairwise (fun x y => decide (x ≤ y) = true) := by
    rw [hl]
    exact List.pairwise_mergeSort (fun a b c h1 h2 => by simp at *; omega) (fun a b => by simp; omega) _
  rw [← hl]
  have hs' : ∀ i j, i ≤ j → j < l.length → l[i]! ≤ l[j]! := by
    intro i j hij hj
    rcases Nat.lt_or_ge i j with h | h
    · have := List.pairwise_iff_getElem.1 hpw i j (by omega) hj h
      simp only [decide_eq_true_eq] at this
      simpa [getElem!_pos, hj, show i < l.length by omega] using this
    · obtain rfl : i = j := by omega
      exact Int.le_refl _
  obtain ⟨h1, h2⟩ := compactUpTo_spec hs' l.length (Nat.le_refl _)
  refine asc_eq h1 ?_ fun x => ?_
  · unfold ints bkts bktTo
    rw [List.pairwise_map]
    exact (List.Pairwise.filter _ List.pairwise_lt_range).imp (fun h => by show (_ : Int) < _; exact Int.ofNat_lt.2 h)
  · have e1 : x ∈ Go.Lib.compact l ↔ x ∈ l := by
      unfold Go.Lib.compact
      rw [h2]
      constructor
      · rintro ⟨j, hj, rfl⟩
        simp [getElem!_pos, hj]
      · intro hx
        obtain ⟨j, hj, rfl⟩ := List.getElem_of_mem hx
        exact ⟨j, hj, by simp [getElem!_pos, hj]⟩
    rw [e1, hp.mem_iff]
    simp only [ints, List.mem_map, mem_bkts, bmapTo, mem_mems]
    constructor
    · rintro ⟨b, ⟨v, ⟨hv, ht⟩, rfl⟩, rfl⟩
      exact ⟨v % n, ⟨Nat.mod_lt _ hn, inB_iff.2 ⟨v, hv, rfl, ht⟩⟩, rfl⟩
    · rintro ⟨b, ⟨hb, hi⟩, rfl⟩
      obtain ⟨v, hv, rfl, ht⟩ := inB_iff.1 hi
      exact ⟨v % n, ⟨v, ⟨hv, ht⟩, rfl⟩, rfl⟩
end Go.Lf
