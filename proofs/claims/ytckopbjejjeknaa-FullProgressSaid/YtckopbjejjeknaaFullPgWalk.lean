/- FullProgress: the walk. -/
import Derived.Test.YtckopbjejjeknaaFullProg
namespace Go.Lf
theorem ws_first {y : Int} (hy : y % 2 = 0) : (⟨0, 0, 0⟩ : WS).step 6 y = ⟨1, 0, 0⟩ := by
  unfold WS.step; rw [if_pos rfl, if_pos hy]; rfl
theorem ws_next {y : Int} (hy : y % 2 = 0) (k : Nat) : (⟨k, 0, 0⟩ : WS).step 6 y = if k + 1 = 6 then ⟨k + 1, 2, 0⟩ else ⟨k + 1, 0, 0⟩ := by
  unfold WS.step; rw [if_pos rfl, if_pos hy]; rfl
end Go.Lf
namespace Go.Proofs.Ytckopbjejjeknaa
open Go.RowKit Go.Lf
section
variable {w wr : World} {rb g nb bb mb : Nat} {F : Nat → Prop} {nums : List Int} {th : List PT} {log : List Acc}
/-- The wait alone, at slot k. -/
def GoodE (w : World) (rb g nb bb mb K k : Nat) (w' : World) : Prop := ∃ nums th F log b x5, RunAt w w' rb g nb bb mb F nums noBeg th log ∧ Inv nums th K ∧ log.length ≤ K ∧ (∀ (j : Nat) (x : PT), th[j]? = some x → x.inn = false) ∧ th[5]? = some x5 ∧ x5.wt = (if k < 6 then some (b, ⟨k, 0, 0⟩) else none)
theorem prog_first (h : RunAt w wr rb g nb bb mb F nums noBeg th log) {K : Nat} (hI : Inv nums th K) (hl : log.length ≤ K) (hK : K < 1000000) (hq : ∀ (j : Nat) (x : PT), th[j]? = some x → x.inn = false ∧ x.wt = none) (s : Int) (hs : s ≠ 0) :
    Calls Try.prog 37 #[.pointer (some ⟨rb, 0, none⟩), .int .i64 5, .int .u8 2, .int .i64 0, .int .u64 s] wr fun e w' => e = .returned (.bool true) ∧ GoodE w rb g nb bb mb (K + 1) 1 w' := by
  obtain ⟨x, hx⟩ : ∃ x, th[5]? = some x := ⟨_, List.getElem?_eq_getElem (by have := hI.lt; omega)⟩
  obtain ⟨n, hn⟩ : ∃ n, nums[5]? = some n := ⟨_, List.getElem?_eq_getElem (by have := hI.ln; omega)⟩
  obtain ⟨en, -⟩ := hI.num 5 x n hx hn
  obtain ⟨hin, hwt⟩ := hq 5 x hx
  obtain ⟨y, hy⟩ : ∃ y, nums[0]? = some y := ⟨_, List.getElem?_eq_getElem (by have := hI.ln; omega)⟩
  obtain ⟨z, hz⟩ : ∃ z, th[0]? = some z := ⟨_, List.getElem?_eq_getElem (by have := hI.lt; omega)⟩
  have hev := even_word hI hy (fun z h => (hq 0 z h).1)
  have y0 : 0 ≤ y := by
    obtain ⟨-, a, -, -, c⟩ := hI.num 0 z y hz hy
    have := c (hq 0 z hz).1; omega
  refine (act_begin h 5 x hx en hwt hin 2 0 s (by decide) (by decide) hs y hy y0 (by omega)).mono ?_
  rintro e w' ⟨rfl, b, sb, F', log', hr, hl'⟩
  refine ⟨rfl, _, _, F', log', b, _, hr, ?_, by omega, fun j x' hj => ?_, set_self hx _, by rw [ws_first hev]; rfl⟩
  · refine Inv.mono (K := (K : Int)) ?_ (by omega)
    refine hI.turn hx rfl rfl rfl ?_
    intro b' s' hb'
    simp only [Option.some.injEq, Prod.mk.injEq] at hb'
    obtain ⟨rfl, rfl⟩ := hb'
    obtain ⟨f1, f2⟩ := (step_form ⟨0, 0, 0⟩ y (by decide) (by decide) (fun h => by simp at h)).2 (first_step y)
    exact ⟨hin, first_step y, f1, f2, sb, mList th 6, rfl, mList_len th 6, (ahead_begin hI).step hy (fun z' hz' hin' => by
      have := (hq 0 z' hz').1; rw [this] at hin'; cases hin') (by decide)⟩
  · rcases set_cases hj with ⟨e1, e2⟩ | ⟨e1, e2⟩
    · rw [e2]; exact hin
    · exact (hq j x' e2).1
theorem prog_next {K k : Nat} (hG : GoodE w rb g nb bb mb K k wr) (hK : K < 1000000) (k6 : k < 6) (s : Int) :
    Calls Try.prog 37 #[.pointer (some ⟨rb, 0, none⟩), .int .i64 5, .int .u8 2, .int .i64 0, .int .u64 s] wr fun e w' => e = .returned (.bool true) ∧ GoodE w rb g nb bb mb (K + 1) (k + 1) w' := by
  obtain ⟨nums, th, F, log, b, x, h, hI, hl, hq, hx, hw⟩ := hG
  rw [if_pos k6] at hw
  obtain ⟨n, hn⟩ : ∃ n, nums[5]? = some n := ⟨_, List.getElem?_eq_getElem (by have := hI.ln; omega)⟩
  obtain ⟨en, -⟩ := hI.num 5 x n hx hn
  obtain ⟨a1, a2, a3, a4, sb, l, a5, a6, a7⟩ := hI.wait 5 x b _ hx hw
  obtain ⟨y, hy⟩ : ∃ y, nums[k]? = some y := ⟨_, List.getElem?_eq_getElem (by have := hI.ln; omega)⟩
  obtain ⟨z, hz⟩ : ∃ z, th[k]? = some z := ⟨_, List.getElem?_eq_getElem (by have := hI.lt; omega)⟩
  have hev := even_word hI hy (fun z h => hq k z h)
  have y0 : 0 ≤ y := by
    obtain ⟨-, a, -, -, c⟩ := hI.num k z y hz hy
    have := c (hq k z hz); omega
  refine act_wait h 5 x b _ hx en hw 2 0 s ((rwait_ok h 5 x b _ hx hw a2 a3 y hy y0 sb l a5 (by omega) (fun he => hI.ends hx hw a5 hy he)).mono ?_)
  rintro e w' ⟨rfl, F', log', hr, hl'⟩
  refine ⟨rfl, _, _, F', log', b, _, hr, ?_, by omega, fun j x' hj => ?_, set_self hx _, ?_⟩
  · refine Inv.mono (K := (K : Int)) ?_ (by omega)
    refine hI.turn hx rfl rfl rfl ?_
    intro b' s' hb'
    simp only at hb'
    split at hb'
    · cases hb'
    · simp only [Option.some.injEq, Prod.mk.injEq] at hb'
      obtain ⟨rfl, rfl⟩ := hb'
      obtain ⟨f1, f2⟩ := (step_form ⟨k, 0, 0⟩ y a2 a3 a4).2 (by omega)
      exact ⟨a1, by omega, f1, f2, sb, l, a5, a6, a7.step hy (fun z' hz' hin => by
        have := hq k z' hz'; rw [this] at hin; cases hin) a2⟩
  · rcases set_cases hj with ⟨e1, e2⟩ | ⟨e1, e2⟩
    · rw [e2]; exact a1
    · exact hq j x' e2
  · simp only
    rw [ws_next hev]
    by_cases e : k + 1 = 6
    · rw [if_pos e, if_pos (Nat.le_refl 2), if_neg (by omega)]
    · rw [if_neg e, if_neg (show ¬ 2 ≤ 0 by omega), if_pos (by omega)]
end
end Go.Proofs.Ytckopbjejjeknaa
