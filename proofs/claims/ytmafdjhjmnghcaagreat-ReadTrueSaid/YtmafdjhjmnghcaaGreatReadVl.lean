/- read: views of a tower in the words of a store. Plain. -/
import Derived.Test.YtmafdjhjmnghcaaGreatReadTrueP
set_option linter.unusedVariables false
set_option linter.unusedSimpArgs false
namespace Go.Lf
/-- A view lies in the words: T the tower's first word, D the descriptors, lk their number. -/
structure VL (lk T D : Nat) (ws : List Int) (x : Vw) : Prop where
  S : ws[T + 4]? = some x.S
  v : ws[T + 1]? = some x.v
  a : ws[T + 2]? = some x.a
  d : ∀ e, e < lk → ws[D + e]? = some (x.d e)
  ap : D + lk ≤ T
def WSt.addr (T D : Nat) : WSt → Nat
  | .S _ => T + 4
  | .V _ => T + 1
  | .A _ => T + 2
  | .D e _ => D + e
def WSt.val : WSt → Int
  | .S y => y
  | .V y => y
  | .A y => y
  | .D _ y => y
/-- A store that is within the descriptors. -/
def WSt.fit (lk : Nat) : WSt → Prop
  | .D e _ => e < lk
  | _ => True
section
variable {lk T D : Nat} {ws : List Int} {x : Vw}
theorem VL.shown (h : VL lk T D ws x) : shownP lk T D ws = x.shown lk := by
  unfold shownP Vw.shown
  simp only [h.S, Option.getD_some]
  by_cases hc : fOk x.S = true ∧ fEntry x.S < lk
  · rw [if_pos hc, if_pos hc]
    have he := (fEntry_rng (w := x.S)).1
    have hd := h.d (fEntry x.S).toNat (by omega)
    simp only [hd, Option.getD_some]
    obtain ⟨q, hq⟩ : ∃ q, q = fDecide x.S (if fKind x.S = 0 ∨ fKind x.S = 1 ∨ fKind x.S = 2 then 0 else x.d (fEntry x.S).toNat) := ⟨_, rfl⟩
    rw [← hq]
    split
    · rfl
    · split
      · rw [h.a]; rfl
      · rw [h.v]; rfl
  · rw [if_neg hc, if_neg hc]
theorem VL.word {s : RS} (h : VL lk T D ws x) (hg : s.good lk) : s.word T D ws = x.word s := by
  unfold RS.word RS.at Vw.word
  have he := (fEntry_rng (w := s.state)).1
  rcases hg.nx with e | e | e | e | e
  · rw [if_pos e, h.S, if_neg (by omega), if_neg (by omega), if_neg (by omega)]; rfl
  · rw [if_neg (by omega), if_pos e, if_pos e, h.d _ (by have := hg.en e; omega)]; rfl
  · rw [if_neg (by omega), if_neg (by omega), if_pos e, if_neg (by omega), if_pos e, h.v]; rfl
  · rw [if_neg (by omega), if_neg (by omega), if_neg (by omega), if_pos e, if_neg (by omega), if_neg (by omega), if_pos e, h.a]; rfl
  · rw [if_neg (by omega), if_neg (by omega), if_neg (by omega), if_neg (by omega), if_neg (by omega), if_neg (by omega), if_neg (by omega), h.S]; rfl
theorem at_set {l : List Int} {i j : Nat} {v y : Int} (h : l[j]? = some y) : (l.set i v)[j]? = some (if j = i then v else y) := by
  have hlt := (List.getElem?_eq_some_iff.1 h).1
  rw [List.getElem?_set]
  by_cases e : i = j
  · subst e; rw [if_pos rfl, if_pos hlt, if_pos rfl]
  · rw [if_neg e, if_neg (fun h => e h.symm), h]
theorem VL.put (h : VL lk T D ws x) (st : WSt) (hf : st.fit lk) : VL lk T D (ws.set (st.addr T D) st.val) (x.put st) := by
  have hap := h.ap
  cases st with
  | S y =>
    refine ⟨by rw [WSt.addr, at_set h.S, if_pos rfl]; rfl, by rw [WSt.addr, at_set h.v, if_neg (by omega)]; rfl, by rw [WSt.addr, at_set h.a, if_neg (by omega)]; rfl, fun e he => ?_, hap⟩
    rw [WSt.addr, at_set (h.d e he), if_neg (by omega)]; rfl
  | V y =>
    refine ⟨by rw [WSt.addr, at_set h.S, if_neg (by omega)]; rfl, by rw [WSt.addr, at_set h.v, if_pos rfl]; rfl, by rw [WSt.addr, at_set h.a, if_neg (by omega)]; rfl, fun e he => ?_, hap⟩
    rw [WSt.addr, at_set (h.d e he), if_neg (by omega)]; rfl
  | A y =>
    refine ⟨by rw [WSt.addr, at_set h.S, if_neg (by omega)]; rfl, by rw [WSt.addr, at_set h.v, if_neg (by omega)]; rfl, by rw [WSt.addr, at_set h.a, if_pos rfl]; rfl, fun e he => ?_, hap⟩
    rw [WSt.addr, at_set (h.d e he), if_neg (by omega)]; rfl
  | D k y =>
    have hk : k < lk := hf
    refine ⟨by rw [WSt.addr, at_set h.S, if_neg (by omega)]; rfl, by rw [WSt.addr, at_set h.v, if_neg (by omega)]; rfl, by rw [WSt.addr, at_set h.a, if_neg (by omega)]; rfl, fun e he => ?_, hap⟩
    rw [WSt.addr, at_set (h.d e he)]
    show some (if D + e = D + k then y else x.d e) = some (if e = k then y else x.d e)
    by_cases e2 : e = k
    · rw [if_pos e2, if_pos (by omega)]
    · rw [if_neg e2, if_neg (by omega)]
/-- The stores of deeds are within bounds. -/
structure WSt.rng (lk : Nat) (st : WSt) : Prop where
  fit : st.fit lk
  v0 : 0 ≤ st.val
  v1 : st.val < 18446744073709551616
theorem deeds_rng (hk : lk ≤ 16) : ∀ (l : List DeedP) (g : Nat → Int), (∀ e, 0 ≤ g e ∧ g e + l.length ≤ 1000) → (∀ y ∈ l, y.entry < lk ∧ 0 ≤ y.val ∧ y.val < 18446744073709551616) → ∀ st ∈ deedsP g l, st.rng lk := by
  intro l
  induction l with
  | nil => intro g _ _ st hst; cases hst
  | cons y l ih =>
    intro g hg hl st hst
    obtain ⟨he, v0, v1⟩ := hl y (List.mem_cons_self ..)
    have hge := hg y.entry
    simp only [List.length_cons] at hg hge
    have tail : ∀ g', (∀ e, g e ≤ g' e ∧ g' e ≤ g e + 1) → ∀ st ∈ deedsP g' l, st.rng lk := fun g' h => ih g' (fun e => by have := hg e; have := h e; omega) (fun z hz => hl z (List.mem_cons_of_mem _ hz))
    rw [deedsP] at hst
    split at hst
    · rcases List.mem_cons.1 hst with rfl | hst
      · exact ⟨trivial, v0, v1⟩
      · exact tail g (fun e => by omega) _ hst
    · split at hst
      · simp only [List.mem_cons, List.not_mem_nil, or_false] at hst
        rcases hst with rfl | rfl | rfl | rfl
        · exact ⟨trivial, by show 0 ≤ goneW _ _; unfold goneW; omega, by show goneW _ _ < _; unfold goneW; omega⟩
        · exact ⟨he, by show 0 ≤ 2 * g y.entry + 1; omega, by show 2 * g y.entry + 1 < _; omega⟩
        · exact ⟨trivial, by show (0 : Int) ≤ 2; decide, by show (2 : Int) < _; decide⟩
        · exact ⟨he, by show 0 ≤ 2 * (g y.entry + 1); omega, by show 2 * (g y.entry + 1) < _; omega⟩
      · simp only [List.mem_cons] at hst
        rcases hst with rfl | rfl | rfl | rfl | rfl | rfl | hst
        · exact ⟨trivial, v0, v1⟩
        · exact ⟨trivial, by show 0 ≤ swapW _ _; unfold swapW; omega, by show swapW _ _ < _; unfold swapW; omega⟩
        · exact ⟨he, by show 0 ≤ 2 * g y.entry + 1; omega, by show 2 * g y.entry + 1 < _; omega⟩
        · exact ⟨trivial, v0, v1⟩
        · exact ⟨trivial, by show (0 : Int) ≤ 1; decide, by show (1 : Int) < _; decide⟩
        · exact ⟨he, by show 0 ≤ 2 * (g y.entry + 1); omega, by show 2 * (g y.entry + 1) < _; omega⟩
        · exact tail _ (fun e => by unfold upd; split <;> rename_i h <;> (try subst h) <;> omega) _ hst
theorem born_rng (hk : lk ≤ 16) (h1 : 1 ≤ lk) (l : List DeedP) (hl8 : l.length ≤ 8) (hl : ∀ y ∈ l, y.entry < lk ∧ 0 ≤ y.val ∧ y.val < 18446744073709551616) : ∀ st ∈ bornP l, st.rng lk := by
  intro st hst
  unfold bornP at hst
  simp only [List.mem_cons] at hst
  rcases hst with rfl | rfl | rfl | hst
  · exact ⟨h1, by show (0 : Int) ≤ 1; decide, by show (1 : Int) < _; decide⟩
  · exact ⟨trivial, by show (0 : Int) ≤ 1; decide, by show (1 : Int) < _; decide⟩
  · exact ⟨h1, by show (0 : Int) ≤ 2; decide, by show (2 : Int) < _; decide⟩
  · refine deeds_rng hk l _ (fun e => ?_) hl _ hst
    show 0 ≤ (if e = 0 then (0 : Int) + 1 else 0) ∧ (if e = 0 then (0 : Int) + 1 else 0) + l.length ≤ 1000
    split <;> omega
end
end Go.Lf
