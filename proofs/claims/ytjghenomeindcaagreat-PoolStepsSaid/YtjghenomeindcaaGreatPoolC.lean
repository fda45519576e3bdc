/- Counting towers: plain data. No program is named here. -/
import Derived.Test.YtjghenomeindcaaGreatPoolI
set_option linter.unusedVariables false
set_option linter.unusedSimpArgs false
namespace Go.Lf
theorem nodup_filter {l : List Int} (h : l.Nodup) (a : Int) : l.length ≤ (l.filter (fun x => x != a)).length + 1 := by
  induction l with
  | nil => simp
  | cons y l ih =>
    rw [List.nodup_cons] at h
    by_cases e : y = a
    · subst e
      have : l.filter (fun x => x != y) = l := List.filter_eq_self.2 fun x hx => by have h2 : x ≠ y := fun e => h.1 (e ▸ hx); simpa using h2
      rw [List.filter_cons_of_neg (by simp), this]
      simp
    · rw [List.filter_cons_of_pos (by simpa using e)]
      have := ih h.2
      simp only [List.length_cons]
      omega
theorem nodup_bd {n : Nat} {l : List Int} (h : l.Nodup) (hr : ∀ x ∈ l, 1 ≤ x ∧ x ≤ (n : Int)) : l.length ≤ n := by
  induction n generalizing l with
  | zero =>
    cases l with
    | nil => simp
    | cons x l => have := hr x List.mem_cons_self; omega
  | succ n ih =>
    have h1 := nodup_filter h ((n + 1 : Nat) : Int)
    have h2 := ih (l := l.filter (fun x => x != ((n + 1 : Nat) : Int))) (h.filter _) fun x hx => by
      rw [List.mem_filter] at hx
      have h3 := hr x hx.1
      have h4 : x ≠ ((n + 1 : Nat) : Int) := by simpa using hx.2
      omega
    omega
theorem SInv.len {c : Cfg} {s : PSt} {L : Nat → List Int} {sw : Nat → Int} (h : SInv c s L sw) {k : Nat} (hk : k < 6) : (L k).length ≤ c.nT :=
  nodup_bd (h.nd k hk) fun x hx => ⟨(h.rng k hk x hx).1, (h.rng k hk x hx).2.1⟩
/-- How often a number is in a list. -/
def occ (l : List Int) (x : Int) : Int := (l.count x : Nat)
theorem occ_nil (x : Int) : occ [] x = 0 := rfl
theorem occ_snoc (l : List Int) (y x : Int) : occ (l ++ [y]) x = if x = y then occ l x + 1 else occ l x := by
  unfold occ
  rw [List.count_append, List.count_singleton]
  by_cases e : x = y
  · subst e; simp
  · rw [if_neg e, if_neg (by simpa using fun h => e h.symm)]; simp
/-- The counters, the first n numbers. -/
def cnts (n : Nat) (l : List Int) : List Int := (List.range n).map fun i : Nat => occ l (i : Int)
theorem cnts_len (n : Nat) (l : List Int) : (cnts n l).length = n := by simp [cnts]
theorem cnts_at {n i : Nat} (l : List Int) (h : i < n) : (cnts n l)[i]? = some (occ l (i : Int)) := by
  unfold cnts
  rw [List.getElem?_map, List.getElem?_range h]
  rfl
theorem cnts_nil (n : Nat) : cnts n [] = List.replicate n 0 := by
  unfold cnts
  apply List.ext_getElem?
  intro i
  rw [List.getElem?_map, List.getElem?_replicate]
  by_cases h : i < n
  · rw [List.getElem?_range h, if_pos h]; rfl
  · rw [List.getElem?_eq_none (by simp; omega), if_neg h]; rfl
theorem cnts_set {n : Nat} (l : List Int) {y : Nat} (h : y < n) : (cnts n l).set y (occ l (y : Int) + 1) = cnts n (l ++ [(y : Int)]) := by
  apply List.ext_getElem?
  intro i
  rw [List.getElem?_set]
  by_cases hi : i < n
  · rw [cnts_at _ hi, cnts_at _ hi, occ_snoc]
    by_cases e : y = i
    · subst e
      rw [if_pos rfl, if_pos (by rw [cnts_len]; exact h), if_pos rfl]
    · rw [if_neg e, if_neg (by omega)]
  · rw [if_neg (by omega), List.getElem?_eq_none (by rw [cnts_len]; omega), List.getElem?_eq_none (by rw [cnts_len]; omega)]
theorem occ_one {l : List Int} (h : l.Nodup) {x : Int} (hx : x ∈ l) : occ l x = 1 := by
  unfold occ
  have h1 : 0 < l.count x := List.count_pos_iff.2 hx
  have h2 : l.count x ≤ 1 := List.nodup_iff_count.1 h x
  omega
/-- The towers on the stacks of the first k heights, the top first. -/
def stks (L : Nat → List Int) (k : Nat) : List Int := (List.range k).flatMap L
theorem stks_succ (L : Nat → List Int) (k : Nat) : stks L (k + 1) = stks L k ++ L k := by
  unfold stks
  rw [List.range_succ, List.flatMap_append]
  simp
theorem stks_mem {L : Nat → List Int} {k : Nat} {x : Int} : x ∈ stks L k ↔ ∃ j, j < k ∧ x ∈ L j := by
  unfold stks
  rw [List.mem_flatMap]
  simp only [List.mem_range]
section
variable {c : Cfg} {s : PSt} {L : Nat → List Int} {sw : Nat → Int}
theorem SInv.stks_nd (h : SInv c s L sw) : ∀ k, k ≤ 6 → (stks L k).Nodup
  | 0, _ => List.nodup_nil
  | k + 1, hk => by
    rw [stks_succ, List.nodup_append]
    refine ⟨h.stks_nd k (by omega), h.nd k (by omega), fun x hx y hy e => ?_⟩
    subst e
    obtain ⟨j, hj, hx⟩ := stks_mem.1 hx
    have h1 := (h.rng j (by omega) x hx).2.2
    rw [(h.rng k (by omega) x hy).2.2] at h1
    simp at h1
    omega
/-- The towers that are out, in ascending order. -/
def outL (n : Nat) (out : Int → Option Bool) : List Int := ((List.range n).map fun i : Nat => (i : Int) + 1).filter fun x => (out x).isSome
theorem outL_mem {n : Nat} {out : Int → Option Bool} {x : Int} : x ∈ outL n out ↔ (1 ≤ x ∧ x ≤ n) ∧ (out x).isSome = true := by
  unfold outL
  rw [List.mem_filter, List.mem_map]
  simp only [List.mem_range]
  constructor
  · rintro ⟨⟨i, hi, rfl⟩, h⟩; exact ⟨by omega, h⟩
  · rintro ⟨⟨h1, h2⟩, h⟩; exact ⟨⟨x.toNat - 1, by omega, by omega⟩, h⟩
theorem outL_sorted (n : Nat) (out : Int → Option Bool) : (outL n out).Pairwise (· < ·) := by
  unfold outL
  refine List.Pairwise.filter _ ?_
  rw [List.pairwise_map]
  exact List.Pairwise.imp (fun h => by omega) List.pairwise_lt_range
theorem outL_nodup (n : Nat) (out : Int → Option Bool) : (outL n out).Nodup := (outL_sorted n out).imp fun h => by omega
/-- Each tower is counted once. -/
theorem SInv.parts (h : SInv c s L sw) {x : Int} (h1 : 1 ≤ x) (h2 : x ≤ c.nT) : occ (stks L 6 ++ outL c.nT s.out) x = 1 := by
  refine occ_one ?_ ?_
  · rw [List.nodup_append]
    refine ⟨h.stks_nd 6 (Nat.le_refl _), outL_nodup _ _, fun y hy z hz e => ?_⟩
    subst e
    obtain ⟨j, hj, hy⟩ := stks_mem.1 hy
    exact ((h.out y).1 (outL_mem.1 hz).2).2 j hj hy
  · rw [List.mem_append]
    by_cases ho : (s.out x).isSome = true
    · exact .inr (outL_mem.2 ⟨⟨h1, h2⟩, ho⟩)
    · refine .inl (stks_mem.2 ?_)
      apply Classical.byContradiction
      intro hn
      exact ho ((h.out x).2 ⟨⟨h1, h2⟩, fun j hj hx => hn ⟨j, hj, hx⟩⟩)
end
end Go.Lf
