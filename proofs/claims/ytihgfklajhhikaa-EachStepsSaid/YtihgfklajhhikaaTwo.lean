/- Two sides that lie apart in one memory, and the blocks of the walk itself. -/
import Derived.Test.YtihgfklajhhikaaFlat7
set_option linter.unusedVariables false
set_option linter.unusedSimpArgs false
namespace Go.Lf
open Go.RowKit
/-- A way in which a state lies in a world, at a set of blocks. -/
structure Lies (σ : Type) where
  lie : World → (Nat → Prop) → σ → Prop
  keep : ∀ {w w' : World} {A S : Nat → Prop} {s : σ}, lie w A s → Keep S w w' → (∀ k, A k → ¬ S k) → lie w' A s
  lt : ∀ {w : World} {A : Nat → Prop} {s : σ}, lie w A s → ∀ k, A k → k < w.heap.size
/-- A call has turned the state. -/
def Lies.To {σ : Type} (P : Lies σ) (w : World) (A : Nat → Prop) (s' : σ) (w' : World) : Prop := ∃ A', P.lie w' A' s' ∧ Keep A w w' ∧ Foot w A A'
/-- What neither side may turn: the walk's own blocks, and what was there before. -/
def Out (w : World) (L : Nat → Prop) : Nat → Prop := fun k => ¬ L k ∧ w.heap.size ≤ k
structure Two {σ τ : Type} (P : Lies σ) (R : Lies τ) (w : World) (L : Nat → Prop) (s : σ) (r : τ) (wr : World) : Prop where
  ex : ∃ A B, P.lie wr A s ∧ R.lie wr B r ∧ (∀ k, A k → ¬ B k ∧ ¬ L k ∧ w.heap.size ≤ k) ∧ (∀ k, B k → ¬ L k ∧ w.heap.size ≤ k)
  ll : ∀ k, L k → k < wr.heap.size ∧ w.heap.size ≤ k
  own : Keep Nil w wr

section
variable {σ τ : Type} {P : Lies σ} {R : Lies τ} {w wr w' : World} {L : Nat → Prop} {s s' : σ} {r r' : τ}
theorem Lies.quiet {A : Nat → Prop} (h : P.lie wr A s) (hk : Keep Nil wr w') : P.lie w' A s := P.keep h hk (fun _ _ h => h)
theorem Two.quiet (h : Two P R w L s r wr) (hk : Keep Nil wr w') : Two P R w L s r w' := by
  obtain ⟨⟨A, B, h1, h2, h3, h4⟩, h5, h6⟩ := h
  exact ⟨⟨A, B, P.keep h1 hk (fun _ _ h => h), R.keep h2 hk (fun _ _ h => h), h3, h4⟩, fun k hk' => ⟨by have := (h5 k hk').1; have := hk.size; omega, (h5 k hk').2⟩, h6.trans hk (fun _ _ h => h)⟩
theorem Two.loc (h : Two P R w L s r wr) (hk : Keep L wr w') {L' : Nat → Prop} (hL : ∀ k, L' k → L k ∨ (wr.heap.size ≤ k ∧ k < w'.heap.size)) : Two P R w L' s r w' := by
  obtain ⟨⟨A, B, h1, h2, h3, h4⟩, h5, h6⟩ := h
  have hz := hk.size
  have h0 := h6.size
  have a1 := P.lt h1
  have b1 := R.lt h2
  refine ⟨⟨A, B, P.keep h1 hk (fun k hA hl => (h3 k hA).2.1 hl), R.keep h2 hk (fun k hB hl => (h4 k hB).1 hl), fun k hA => ⟨(h3 k hA).1, fun hl => ?_, (h3 k hA).2.2⟩, fun k hB => ⟨fun hl => ?_, (h4 k hB).2⟩⟩, fun k hl => ?_, h6.trans hk (fun j hj hl => by have := (h5 j hl).2; omega)⟩
  · rcases hL k hl with e | e
    · exact (h3 k hA).2.1 e
    · have := a1 k hA; omega
  · rcases hL k hl with e | e
    · exact (h4 k hB).1 e
    · have := b1 k hB; omega
  · rcases hL k hl with e | e
    · have := h5 k e; omega
    · omega
theorem Two.less (h : Two P R w L s r wr) {L' : Nat → Prop} (hL : ∀ k, L' k → L k) : Two P R w L' s r wr := h.loc (Keep.refl L wr) (fun k hk => .inl (hL k hk))
/-- A call of the first side. -/
theorem Two.turn1 {A : Nat → Prop} {B : Nat → Prop} (_h1 : P.lie wr A s) (h2 : R.lie wr B r) (h3 : ∀ k, A k → ¬ B k ∧ ¬ L k ∧ w.heap.size ≤ k) (h4 : ∀ k, B k → ¬ L k ∧ w.heap.size ≤ k) (h5 : ∀ k, L k → k < wr.heap.size ∧ w.heap.size ≤ k) (h6 : Keep Nil w wr) (ht : P.To wr A s' w') :
    Two P R w L s' r w' ∧ Keep (Out w L) wr w' := by
  obtain ⟨A', p, k, f⟩ := ht
  have hz := k.size
  have h0 := h6.size
  have b1 := R.lt h2
  refine ⟨⟨⟨A', B, p, R.keep h2 k (fun j hB hA => (h3 j hA).1 hB), fun j hA => ?_, h4⟩, fun j hl => ⟨by have := (h5 j hl).1; omega, (h5 j hl).2⟩, h6.trans k (fun j hj hA => by have := (h3 j hA).2.2; omega)⟩, k.mono (fun j _ hA => (h3 j hA).2)⟩
  rcases f j hA with e | e
  · exact h3 j e
  · exact ⟨fun hB => by have := b1 j hB; omega, fun hl => by have := (h5 j hl).1; omega, by omega⟩
theorem Two.turn2 {A : Nat → Prop} {B : Nat → Prop} (h1 : P.lie wr A s) (_h2 : R.lie wr B r) (h3 : ∀ k, A k → ¬ B k ∧ ¬ L k ∧ w.heap.size ≤ k) (h4 : ∀ k, B k → ¬ L k ∧ w.heap.size ≤ k) (h5 : ∀ k, L k → k < wr.heap.size ∧ w.heap.size ≤ k) (h6 : Keep Nil w wr) (ht : R.To wr B r' w') :
    Two P R w L s r' w' ∧ Keep (Out w L) wr w' := by
  obtain ⟨B', p, k, f⟩ := ht
  have hz := k.size
  have h0 := h6.size
  have a1 := P.lt h1
  refine ⟨⟨⟨A, B', P.keep h1 k (fun j hA hB => (h3 j hA).1 hB), p, fun j hA => ⟨fun hB => ?_, (h3 j hA).2⟩, fun j hB => ?_⟩, fun j hl => ⟨by have := (h5 j hl).1; omega, (h5 j hl).2⟩, h6.trans k (fun j hj hB => by have := (h4 j hB).2; omega)⟩, k.mono (fun j _ hB => h4 j hB)⟩
  · rcases f j hB with e | e
    · exact (h3 j hA).1 e
    · have := a1 j hA; omega
  · rcases f j hB with e | e
    · exact h4 j e
    · exact ⟨fun hl => by have := (h5 j hl).1; omega, by omega⟩
theorem Two.call1 (h : Two P R w L s r wr) {Q : Program} {f : FuncId} {args : Array Value} {Φ : Ending → World → Prop} (hc : ∀ A, P.lie wr A s → Calls Q f args wr fun e w' => Φ e w' ∧ P.To wr A s' w') :
    Calls Q f args wr fun e w' => Φ e w' ∧ Two P R w L s' r w' ∧ Keep (Out w L) wr w' := by
  obtain ⟨⟨A, B, h1, h2, h3, h4⟩, h5, h6⟩ := h
  exact (hc A h1).mono fun e w' ⟨a, b⟩ => ⟨a, Two.turn1 h1 h2 h3 h4 h5 h6 b⟩
theorem Two.call2 (h : Two P R w L s r wr) {Q : Program} {f : FuncId} {args : Array Value} {Φ : Ending → World → Prop} (hc : ∀ B, R.lie wr B r → Calls Q f args wr fun e w' => Φ e w' ∧ R.To wr B r' w') :
    Calls Q f args wr fun e w' => Φ e w' ∧ Two P R w L s r' w' ∧ Keep (Out w L) wr w' := by
  obtain ⟨⟨A, B, h1, h2, h3, h4⟩, h5, h6⟩ := h
  exact (hc B h2).mono fun e w' ⟨a, b⟩ => ⟨a, Two.turn2 h1 h2 h3 h4 h5 h6 b⟩
theorem Two.has1 (h : Two P R w L s r wr) : ∃ A, P.lie wr A s := by obtain ⟨⟨A, _, h1, -⟩, -⟩ := h; exact ⟨A, h1⟩
theorem Two.has2 (h : Two P R w L s r wr) : ∃ B, R.lie wr B r := by obtain ⟨⟨_, B, _, h1, -⟩, -⟩ := h; exact ⟨B, h1⟩
theorem Keep.loc {w0 : World} (hk : Keep (Out w0 L) wr w') {b : Nat} {o : Obj} (hb : wr.heap[b]? = some o) (hl : L b) : w'.heap[b]? = some o := hk.at hb (fun h => h.1 hl)
/-- Both sides made anew, one after the other. -/
theorem Two.fresh {w1 w2 : World} {A B : Nat → Prop} (k1 : Keep Nil w w1) (h1 : P.lie w1 A s) (a : ∀ k, A k → w.heap.size ≤ k) (k2 : Keep Nil w1 w2) (h2 : R.lie w2 B r) (b : ∀ k, B k → w1.heap.size ≤ k) : Two P R w Nil s r w2 := by
  have := k1.size
  exact ⟨⟨A, B, P.keep h1 k2 (fun _ _ h => h), h2, fun k hA => ⟨fun hB => by have := P.lt h1 k hA; have := b k hB; omega, fun h => h, a k hA⟩, fun k hB => ⟨fun h => h, by have := b k hB; omega⟩⟩, fun _ h => h.elim, k1.trans k2 (fun _ _ h => h)⟩
end
theorem get_snoc {α : Type} {l : List α} {o p : α} {i : Nat} (h : (l ++ [o])[i]? = some p) : (i = l.length ∧ p = o) ∨ (i ≠ l.length ∧ l[i]? = some p) := by
  by_cases hi : i < l.length
  · rw [List.getElem?_append_left hi] at h; exact .inr ⟨by omega, h⟩
  · rw [List.getElem?_append_right (by omega)] at h
    by_cases e : i = l.length
    · subst e; simp at h; exact .inl ⟨rfl, h.symm⟩
    · rw [List.getElem?_eq_none (by simp; omega)] at h; cases h
theorem row_beyond {wr w' : World} {e : TypeId} {size m : Nat} {v : Value} {xs : List Value} (ho : wr.ownsRow 0 e size v m xs) (hk : ∀ (k : Nat) (cs : Array Value), v.ownBlock = some k → wr.heap[k]? = some (.cells cs e (0, 0)) → w'.heap[k]? = some (.cells cs e (0, 0))) : w'.ownsRow 0 e size v m xs := by
  refine ⟨ho.1, ?_⟩
  rcases ho.2 with hz | ⟨q, cap, cur, rfl, h1, h2, h3⟩
  · exact .inl hz
  · exact .inr ⟨q, cap, cur, rfl, h1, hk q cur rfl h2, h3⟩
end Go.Lf
