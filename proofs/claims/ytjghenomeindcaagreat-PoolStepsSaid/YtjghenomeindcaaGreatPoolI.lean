/- The pools of a new store, as plain data. No program is named here. -/
import Derived.Test.YtjghenomeindcaaGreatPoolR
set_option linter.unusedVariables false
set_option linter.unusedSimpArgs false
namespace Go.Lf
/-- The towers of a height: l holds the heights of the towers from the index m on. -/
def tws (h : Nat) : Nat → List Nat → List Int
  | _, [] => []
  | m, x :: l => if x = h then ((m : Int) + 1) :: tws h (m + 1) l else tws h (m + 1) l
theorem tws_nx (h m : Nat) (l : List Nat) : ((nx h m l : Nat) : Int) = hd0 (tws h m l) := by
  induction l generalizing m with
  | nil => rfl
  | cons x l ih =>
    unfold nx tws
    by_cases e : x = h
    · rw [if_pos e, if_pos e]
      simp [hd0]
    · rw [if_neg e, if_neg e]
      exact ih _
theorem tws_mem {h m : Nat} {l : List Nat} {y : Int} (hy : y ∈ tws h m l) : ∃ i : Nat, y = (m : Int) + i + 1 ∧ l[i]? = some h := by
  induction l generalizing m with
  | nil => cases hy
  | cons x l ih =>
    unfold tws at hy
    by_cases e : x = h
    · rw [if_pos e, List.mem_cons] at hy
      rcases hy with rfl | hy
      · exact ⟨0, by simp, by rw [e]; rfl⟩
      · obtain ⟨i, h1, h2⟩ := ih hy
        exact ⟨i + 1, by omega, h2⟩
    · rw [if_neg e] at hy
      obtain ⟨i, h1, h2⟩ := ih hy
      exact ⟨i + 1, by omega, h2⟩
theorem tws_of {h m : Nat} {l : List Nat} {i : Nat} (hi : l[i]? = some h) : (m : Int) + i + 1 ∈ tws h m l := by
  induction l generalizing m i with
  | nil => cases hi
  | cons x l ih =>
    unfold tws
    cases i with
    | zero =>
      simp only [List.getElem?_cons_zero, Option.some.injEq] at hi
      rw [if_pos hi]
      simp
    | succ i =>
      rw [List.getElem?_cons_succ] at hi
      have := ih (m := m + 1) hi
      rw [show (m : Int) + ((i + 1 : Nat) : Int) + 1 = ((m + 1 : Nat) : Int) + i + 1 by omega]
      by_cases e : x = h
      · rw [if_pos e]; exact List.mem_cons_of_mem _ this
      · rw [if_neg e]; exact this
theorem tws_nodup (h m : Nat) (l : List Nat) : (tws h m l).Nodup := by
  induction l generalizing m with
  | nil => exact List.nodup_nil
  | cons x l ih =>
    unfold tws
    by_cases e : x = h
    · rw [if_pos e, List.nodup_cons]
      refine ⟨fun hm => ?_, ih _⟩
      obtain ⟨i, h1, -⟩ := tws_mem hm
      omega
    · rw [if_neg e]; exact ih _
theorem tws_next {h m : Nat} {l : List Nat} {i : Nat} {y : Int} (hy : (tws h m l)[i]? = some y) : ((tws h m l)[i + 1]?).getD 0 = ((nx h y.toNat (l.drop (y.toNat - m)) : Nat) : Int) := by
  induction l generalizing m i with
  | nil => cases hy
  | cons x l ih =>
    unfold tws at hy ⊢
    by_cases e : x = h
    · rw [if_pos e] at hy ⊢
      cases i with
      | zero =>
        simp only [List.getElem?_cons_zero, Option.some.injEq] at hy
        subst hy
        rw [show ((m : Int) + 1).toNat = m + 1 by omega, show m + 1 - m = 1 by omega, tws_nx, List.drop_succ_cons, List.drop_zero, List.getElem?_cons_succ]
        cases tws h (m + 1) l <;> rfl
      | succ i =>
        rw [List.getElem?_cons_succ] at hy ⊢
        rw [ih hy]
        obtain ⟨j, h1, -⟩ := tws_mem (List.mem_of_getElem? hy)
        rw [show y.toNat - m = (y.toNat - (m + 1)) + 1 by omega, List.drop_succ_cons]
    · rw [if_neg e] at hy ⊢
      rw [ih hy]
      obtain ⟨j, h1, -⟩ := tws_mem (List.mem_of_getElem? hy)
      rw [show y.toNat - m = (y.toNat - (m + 1)) + 1 by omega, List.drop_succ_cons]
theorem tws_drop {h : Nat} {l : List Nat} {t x : Nat} (ht : l[t]? = some x) : tws h t (l.drop t) = if x = h then ((t : Int) + 1) :: tws h (t + 1) (l.drop (t + 1)) else tws h (t + 1) (l.drop (t + 1)) := by
  have hl : t < l.length := (List.getElem?_eq_some_iff.1 ht).1
  rw [List.drop_eq_getElem_cons hl]
  have : l[t] = x := (List.getElem?_eq_some_iff.1 ht).2
  rw [this]
  rfl
theorem tws_end (h : Nat) (l : List Nat) : tws h l.length (l.drop l.length) = [] := by
  rw [List.drop_length]
  rfl
def PRun.init (c : Cfg) : PRun := ⟨⟨ints c.init, [], fun _ => none, List.replicate c.nT 0⟩, fun _ => none, fun _ => 0, fun _ => [], fun h => tws (h + 1) 0 c.hs, fun _ => 0, fun _ => 0, fun _ => 0⟩
theorem init_word {c : Cfg} {a : Nat} (h : a < c.words) : (ints c.init)[a]? = some ((c.fin 0 c.hs a : Nat) : Int) := by
  unfold ints Cfg.init
  rw [List.getElem?_map, fill_at _ h]
  rfl
theorem nx_bd {h m : Nat} {l : List Nat} : nx h m l ≤ m + l.length := by
  induction l generalizing m with
  | nil => simp [nx]
  | cons x l ih =>
    unfold nx
    split
    · simp only [List.length_cons]; omega
    · have := ih (m := m + 1); simp only [List.length_cons]; omega
theorem PInv.init {c : Cfg} (hok : c.ok) : PInv c (PRun.init c) := by
  have l1 := c.le1
  have l2 := c.le2
  have l3 := c.le3
  have hhd : ∀ k, k < 6 → c.fin 0 c.hs (c.pools + k) = nx (k + 1) 0 c.hs := fun k hk => by
    unfold Cfg.fin
    rw [if_pos ⟨by omega, by omega⟩, show c.pools + k - c.pools + 1 = k + 1 by omega]
  have hln : ∀ i x, c.hs[i]? = some x → c.fin 0 c.hs (c.links + i) = nx x (i + 1) (c.hs.drop (i + 1)) := fun i x hi => by
    have hl : i < c.nT := (List.getElem?_eq_some_iff.1 hi).1
    unfold Cfg.fin
    rw [if_neg (by omega), if_pos ⟨by omega, by omega⟩, if_neg (by omega), show c.links + i - c.links - 0 = i by omega, hi]
    simp only [Nat.add_sub_cancel_left]
  refine ⟨⟨?_, ?_, fun k hk => ?_, fun k hk i y hy => ?_, fun i hi => ?_, fun k hk y hy => ?_, fun k hk => tws_nodup _ _ _, fun y => ?_, fun k hk => Int.le_refl _⟩, fun t o ht ho => (by cases ho), fun t ht x hx => (by cases hx), fun t u x _ _ hx => (by cases hx), fun t ht => List.nodup_nil, fun k hk => Int.le_refl _, fun i g hg => ?_⟩
  · show (ints c.init).length = c.words
    unfold ints Cfg.init
    rw [List.length_map, fill_len]
  · exact List.length_replicate ..
  · show (ints c.init)[c.pools + k]? = some (hd0 (tws (k + 1) 0 c.hs) + 65536 * 0)
    rw [init_word (by omega), hhd k hk, tws_nx]
    simp
  · have hy' : (tws (k + 1) 0 c.hs)[i]? = some y := hy
    obtain ⟨j, h1, h2⟩ := tws_mem (List.mem_of_getElem? hy')
    have hl : j < c.nT := (List.getElem?_eq_some_iff.1 h2).1
    show (ints c.init)[c.links + y.toNat - 1]? = some (((tws (k + 1) 0 c.hs)[i + 1]?).getD 0)
    rw [tws_next hy', show c.links + y.toNat - 1 = c.links + j by omega, init_word (by omega), hln j _ h2, show y.toNat - 0 = j + 1 by omega, show y.toNat = j + 1 by omega]
  · show ∃ y, (ints c.init)[c.links + i]? = some y ∧ _
    refine ⟨_, init_word (by omega), by omega, ?_⟩
    obtain ⟨x, hx⟩ : ∃ x, c.hs[i]? = some x := ⟨_, List.getElem?_eq_getElem hi⟩
    rw [hln i x hx]
    have := nx_bd (h := x) (m := i + 1) (l := c.hs.drop (i + 1))
    rw [List.length_drop] at this
    have h2 : c.nT = c.hs.length := rfl
    omega
  · obtain ⟨j, h1, h2⟩ := tws_mem hy
    have hl : j < c.nT := (List.getElem?_eq_some_iff.1 h2).1
    exact ⟨by omega, by omega, by rw [show y.toNat - 1 = j by omega]; exact h2⟩
  · show (none : Option Bool).isSome = true ↔ (1 ≤ y ∧ y ≤ c.nT) ∧ ∀ h, h < 6 → y ∉ tws (h + 1) 0 c.hs
    refine ⟨fun h => (by cases h), fun ⟨⟨h1, h2⟩, h3⟩ => ?_⟩
    have hl : y.toNat - 1 < c.hs.length := by have : c.nT = c.hs.length := rfl; omega
    obtain ⟨x, hx⟩ : ∃ x, c.hs[y.toNat - 1]? = some x := ⟨_, List.getElem?_eq_getElem hl⟩
    have hx6 := hok.hs x (List.mem_of_getElem? hx)
    have hm := tws_of (m := 0) hx
    refine absurd ?_ (h3 (x - 1) (by omega))
    rw [show x - 1 + 1 = x by omega]
    rw [show y = ((0 : Nat) : Int) + ((y.toNat - 1 : Nat) : Int) + 1 by omega]
    exact hm
  · have hg' : (List.replicate c.nT (0 : Int))[i]? = some g := hg
    rw [List.getElem?_replicate] at hg'
    split at hg'
    · cases hg'; exact ⟨Int.le_refl _, Int.natCast_nonneg _⟩
    · cases hg'
end Go.Lf
