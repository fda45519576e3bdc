/- Sequential consistency in plain terms. -/
import Derived.Test.YtnfkjdmjgphghaaRunPlain
namespace Go.Lf
open Go.RowKit

theorem accOf_poss {ws : List Int} {x : Do} {c : Acc} (h0 : 0 < ws.length) (h : accOf ws x = some c) : possB ws c = true := by
  have t0 : 0 ≤ x.t % 64 := Int.emod_nonneg _ (by omega)
  have t1 : x.t % 64 < 64 := Int.emod_lt_of_pos _ (by omega)
  have a0 : 0 ≤ x.a % ws.length := Int.emod_nonneg _ (by omega)
  have a1 : x.a % ws.length < ws.length := Int.emod_lt_of_pos _ (by omega)
  have e := gv_at (ws := ws) a0 a1
  have he : errOf (x.t % 64) (x.a % ws.length) ws.length = 0 := errOf_zero.2 ⟨t0, t1, a0, a1⟩
  unfold accOf at h
  split at h
  · simp at h; subst h; simp [possB, he, e, kindB]
  · split at h
    · simp at h; subst h; simp [possB, he, e, kindB]
    · split at h
      · simp at h; subst h; simp [possB, he, e, kindB]
      · split at h
        · split at h
          · simp at h; subst h; simp [possB, he, e, kindB]
          · simp at h; subst h; simp [possB, he, e, kindB]
        · cases h

theorem run_after (ws : List Int) (l : List Do) (h0 : 0 < ws.length) : after ws (runM ws l).2 = some (runM ws l).1 := by
  suffices h : ∀ k, k ≤ l.length → after ws (runM ws (l.take k)).2 = some (runM ws (l.take k)).1 by
    have := h l.length (Nat.le_refl _)
    rwa [List.take_of_length_le (Nat.le_refl _)] at this
  intro k
  induction k with
  | zero => intro _; rfl
  | succ k ih =>
    intro hk
    obtain ⟨x, hx⟩ : ∃ x, l[k]? = some x := ⟨_, List.getElem?_eq_getElem (by omega)⟩
    rw [runM_take hx]
    have h := ih (by omega)
    have hln := runM_length ws (l.take k)
    unfold stepM
    split
    · rename_i c hc
      exact after_snoc h (accOf_poss (by omega) hc)
    · exact h

/-- What the accesses of a list leave at address a. -/
def lastTo (w0 : Int) (l : List Acc) (a : Int) : Int := l.foldl (fun s x => if x.a = a then x.n else s) w0
theorem lastTo_snoc (w0 : Int) (l : List Acc) (a : Int) (x : Acc) : lastTo w0 (l ++ [x]) a = if x.a = a then x.n else lastTo w0 l a := by simp [lastTo]
theorem lastTo_take {w0 : Int} {l : List Acc} {a : Int} {k : Nat} {x : Acc} (h : l[k]? = some x) : lastTo w0 (l.take (k + 1)) a = if x.a = a then x.n else lastTo w0 (l.take k) a := by
  obtain ⟨hk, rfl⟩ := List.getElem?_eq_some_iff.1 h
  rw [List.take_succ_eq_append_getElem hk, lastTo_snoc]

theorem gv_set {ws : List Int} {a b v : Int} (ha0 : 0 ≤ a) (ha1 : a < (ws.length : Int)) (hb : 0 ≤ b) : gv (ws.set b.toNat v) a = if b = a then v else gv ws a := by
  unfold gv
  rw [List.getElem?_set]
  by_cases h : b = a
  · subst h; rw [if_pos rfl, if_pos (by omega), if_pos rfl]; rfl
  · rw [if_neg (by omega), if_neg h]

theorem after_gv {ws cur : List Int} {l : List Acc} {a : Int} (h : after ws l = some cur) (ha0 : 0 ≤ a) (ha1 : a < (ws.length : Int)) : gv cur a = lastTo (gv ws a) l a := by
  induction l generalizing ws with
  | nil => simp [after] at h; subst h; rfl
  | cons x l ih =>
    simp only [after] at h
    split at h
    · rename_i hp
      have hb := (possB_at hp).2.2.1
      rw [ih h (by rw [List.length_set]; exact ha1), gv_set ha0 ha1 hb]
      rfl
    · cases h

theorem after_take {ws cur : List Int} {l : List Acc} (h : after ws l = some cur) (k : Nat) : ∃ c, after ws (l.take k) = some c := by
  have e := after_append ws (l.take k) (l.drop k)
  rw [List.take_append_drop, h] at e
  cases hc : after ws (l.take k) with
  | none => rw [hc] at e; simp at e
  | some c => exact ⟨c, rfl⟩
theorem after_old {ws cur : List Int} {l : List Acc} (h : after ws l = some cur) {i : Nat} {x : Acc} (hx : l[i]? = some x) :
    0 ≤ x.a ∧ x.a < (ws.length : Int) ∧ x.o = lastTo (gv ws x.a) (l.take i) x.a := by
  obtain ⟨c, hc⟩ := after_take h i
  obtain ⟨c', hc'⟩ := after_take h (i + 1)
  obtain ⟨hi, rfl⟩ := List.getElem?_eq_some_iff.1 hx
  rw [List.take_succ_eq_append_getElem hi, after_append, hc] at hc'
  have hp : possB c l[i] = true := by
    cases hb : possB c l[i] with
    | true => rfl
    | false => simp [after, hb] at hc'
  obtain ⟨-, -, a0, a1, ho, -⟩ := possB_at hp
  have hcl := after_length hc
  have a1' : l[i].a < (ws.length : Int) := by omega
  refine ⟨a0, a1', ?_⟩
  rw [← after_gv hc a0 a1']
  unfold gv
  rw [ho]; rfl
end Go.Lf
