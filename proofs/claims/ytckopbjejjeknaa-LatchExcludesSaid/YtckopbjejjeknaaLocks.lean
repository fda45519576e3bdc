/- A memory with several locks over it, made since a world. -/
import Derived.Test.YtckopbjejjeknaaLatch
import Derived.Test.YtckopbjejjeknaaMemNew
namespace Go.Proofs.Ytckopbjejjeknaa
open Go.RowKit Go.Lf

/-- The memory at mb with the blocks F, and locks at blocks of their own, all made since w. -/
structure Sys (w wr : World) (mb : Nat) (F : Nat → Prop) (ws : List Int) (log : List Acc) (ls : List (Nat × LS)) : Prop where
  mem : MemAt wr mb F ws log
  own : Own w F wr
  at' : ∀ p ∈ ls, LockAt wr p.1 mb p.2 ∧ ¬ F p.1 ∧ w.heap.size ≤ p.1
  ne : ls.Pairwise (fun p q => p.1 ≠ q.1)

variable {w wr : World} {mb : Nat} {F : Nat → Prop} {ws : List Int} {log : List Acc} {ls : List (Nat × LS)}

theorem Sys.keep {w1 : World} (h : Sys w wr mb F ws log ls) (hk : Keep Nil wr w1) : Sys w w1 mb F ws log ls :=
  ⟨h.mem.keep hk (fun _ _ h => h), h.own.quiet hk, fun p hp => ⟨(h.at' p hp).1.keep hk (fun h => h), (h.at' p hp).2⟩, h.ne⟩
theorem Sys.fresh {ws : List Int} (hk : Keep Nil w wr) {w1 : World} (hm : MemAt w1 mb F ws []) (k1 : Keep Nil wr w1) (f1 : Foot wr Nil F) : Sys w w1 mb F ws [] [] :=
  ⟨hm, Own.fresh hk k1 f1, fun p hp => by simp at hp, by simp⟩
/-- A lock is made. -/
theorem Sys.add {w1 : World} {t a n : Int} (h : Sys w wr mb F ws log ls) (hl : LockAt w1 wr.heap.size mb ⟨0, n, t, a, true, 0⟩) (hk : Keep Nil wr w1) : Sys w w1 mb F ws log (ls ++ [(wr.heap.size, ⟨0, n, t, a, true, 0⟩)]) := by
  have h1 := h.keep hk
  refine ⟨h1.mem, h1.own, fun p hp => ?_, ?_⟩
  · rcases List.mem_append.1 hp with hp | hp
    · exact h1.at' p hp
    · simp at hp; subst hp
      exact ⟨hl, fun hF => absurd (h.mem.lt _ hF) (Nat.lt_irrefl _), h.own.1.size⟩
  · rw [List.pairwise_append]
    refine ⟨h.ne, by simp, fun p hp q hq => ?_⟩
    simp at hq; subst hq
    have := lt_of_block (h.at' p hp).1
    simp; omega
theorem set_mem {α : Type} {l : List α} {i : Nat} {x y : α} (h : y ∈ l.set i x) : y = x ∨ ∃ j, j ≠ i ∧ l[j]? = some y := by
  obtain ⟨j, hj⟩ := List.getElem?_of_mem h
  rw [List.getElem?_set] at hj
  split at hj
  · split at hj
    · exact .inl (Option.some.inj hj).symm
    · cases hj
  · exact .inr ⟨j, fun e => by omega, hj⟩
theorem pw_ne (h : ls.Pairwise (fun p q => p.1 ≠ q.1)) {i j : Nat} {p q : Nat × LS} (hi : ls[i]? = some p) (hj : ls[j]? = some q) (hne : i ≠ j) : p.1 ≠ q.1 := by
  obtain ⟨h1, rfl⟩ := List.getElem?_eq_some_iff.1 hi
  obtain ⟨h2, rfl⟩ := List.getElem?_eq_some_iff.1 hj
  rcases Nat.lt_or_ge i j with h3 | h3
  · exact List.pairwise_iff_getElem.1 h i j h1 h2 h3
  · exact (List.pairwise_iff_getElem.1 h j i h2 h1 (by omega)).symm
/-- A lock has made a step. -/
theorem Sys.stepF {lb : Nat} {i : Nat} {s s' : LS} {ws' : List Int} {log' : List Acc} {F' : Nat → Prop} {w1 : World} (h : Sys w wr mb F ws log ls) (hi : ls[i]? = some (lb, s)) (hm : MemAt w1 mb F' ws' log') (hl : LockAt w1 lb mb s') (hn : ¬ F' lb) (hk : Keep (fun k => F k ∨ k = lb) wr w1) (hf : Foot wr F F') :
    Own w F' w1 ∧ Sys w w1 mb F' ws' log' (ls.set i (lb, s')) := by
  have hlb := (h.at' _ (List.mem_of_getElem? hi)).2.2
  have ho : Own w F' w1 := ⟨h.own.1.trans hk (fun j hj hF => by
      rcases hF with hF | hF
      · rcases h.own.2 j hF with h' | h'
        · exact h'
        · exact absurd hj (by omega)
      · exact absurd hj (by simp only at hlb; omega)), h.own.2.trans h.own.1 hf⟩
  refine ⟨ho, hm, ho, fun p hp => ?_, ?_⟩
  · rcases set_mem hp with rfl | ⟨j, hji, hj⟩
    · exact ⟨hl, hn, hlb⟩
    · obtain ⟨h1, h2, h3⟩ := h.at' p (List.mem_of_getElem? hj)
      have hne := pw_ne h.ne hj hi hji
      refine ⟨h1.keep hk (fun hx => hx.elim h2 hne), fun hF => ?_, h3⟩
      rcases hf _ hF with h' | h'
      · exact h2 h'
      · have := lt_of_block h1; omega
  · rw [List.pairwise_iff_getElem]
    intro a b ha hb hab
    have e1 : ∀ (c : Nat) (hc : c < (ls.set i (lb, s')).length), ((ls.set i (lb, s'))[c]).1 = (ls[c]'(by simpa using hc)).1 := by
      intro c hc
      rw [List.getElem_set]
      split
      · rename_i e; subst e
        obtain ⟨_, hx⟩ := List.getElem?_eq_some_iff.1 hi
        rw [hx]
      · rfl
    rw [e1, e1]
    exact List.pairwise_iff_getElem.1 h.ne a b _ _ hab
theorem Sys.step {lb : Nat} {i : Nat} {s s' : LS} {ws' : List Int} {log' : List Acc} {done : Bool} {e : Ending} {w1 : World} (h : Sys w wr mb F ws log ls) (hi : ls[i]? = some (lb, s)) (ht : TryTo wr lb mb F s' ws' log' done e w1) :
    e = .returned (.tuple #[.int .u8 2, .bool done]) ∧ ∃ F', Sys w w1 mb F' ws' log' (ls.set i (lb, s')) := by
  obtain ⟨he, F', hm, hl, hn, hk, hf⟩ := ht
  exact ⟨he, F', (h.stepF hi hm hl hn hk hf).2⟩
/-- The memory has turned. -/
theorem Sys.mem' {ws' : List Int} {log' : List Acc} {w1 : World} (h : Sys w wr mb F ws log ls) (ht : MemTo wr mb F ws' log' w1) : ∃ F', Sys w w1 mb F' ws' log' ls := by
  obtain ⟨F', hm, hk, hf⟩ := ht
  refine ⟨F', hm, h.own.step hk hf, fun p hp => ?_, h.ne⟩
  obtain ⟨h1, h2, h3⟩ := h.at' p hp
  refine ⟨h1.keep hk h2, fun hF => ?_, h3⟩
  rcases hf _ hF with h' | h'
  · exact h2 h'
  · have := lt_of_block h1; omega
theorem Sys.lk (h : Sys w wr mb F ws log ls) {i lb : Nat} {s : LS} (hi : ls[i]? = some (lb, s)) : LockAt wr lb mb s := (h.at' _ (List.mem_of_getElem? hi)).1
theorem Sys.nf (h : Sys w wr mb F ws log ls) {i lb : Nat} {s : LS} (hi : ls[i]? = some (lb, s)) : ¬ F lb := (h.at' _ (List.mem_of_getElem? hi)).2.1
end Go.Proofs.Ytckopbjejjeknaa
