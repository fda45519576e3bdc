/- What a rig's engine looks like from above: what each thread does, what waits have to wait for, how many steps they have left (plain). -/
import Derived.Test.YtldjlcdccnnogaaGreatEvP
set_option linter.unusedVariables false
set_option linter.unusedSimpArgs false
namespace Go.Lf
open Go.RowKit
abbrev pb (b : Nat) : Value := .pointer (some ⟨b, 0, none⟩)
/-- What a thread of a rig does. -/
inductive TS where
  | idle
  | en (v : Int)
  | inn (v : Int)
  | wa (set : Int) (bg : Bool)
/-- A state of an engine as it is seen from above: a budget of calls, what each thread does, which sections each wait has to wait for, a bound of its steps, and the operation of each thread. -/
structure RX where
  K : Nat
  T : Nat → TS
  M : Nat → Nat → Prop
  R : Nat → Nat
  bx : Nat → Nat
def upd {α : Type} (f : Nat → α) (k : Nat) (a : α) : Nat → α := fun i => if i = k then a else f i
theorem upd_self {α : Type} (f : Nat → α) (k : Nat) (a : α) : upd f k a k = a := if_pos rfl
theorem upd_ne {α : Type} (f : Nat → α) {k i : Nat} (a : α) (h : i ≠ k) : upd f k a i = f i := if_neg h
def RX.enter (x : RX) (k : Nat) (v : Int) (b : Nat) : RX := ⟨x.K + 1, upd x.T k (.en v), x.M, x.R, upd x.bx k b⟩
def RX.estep (x : RX) (k : Nat) (v : Int) (d : Bool) : RX := ⟨x.K + 1, upd x.T k (if d = true then .inn v else .en v), x.M, x.R, x.bx⟩
def RX.exit (x : RX) (k : Nat) : RX := ⟨x.K + 1, upd x.T k .idle, fun i j => x.M i j ∧ j ≠ k, x.R, x.bx⟩
def RX.wait (x : RX) (k : Nat) (set : Int) (r b : Nat) : RX := ⟨x.K + 1, upd x.T k (.wa set false), x.M, upd x.R k r, upd x.bx k b⟩
/-- The sections that a wait has to wait for: those open before its first step. -/
def RX.must (x : RX) (k : Nat) (set : Int) (bg : Bool) : Nat → Prop := if bg = true then x.M k else fun j => ∃ v, x.T j = .inn v ∧ hasv set v = true
def RX.wstep (x : RX) (k : Nat) (set : Int) (bg d : Bool) (r : Nat) : RX := ⟨x.K + 1, upd x.T k (if d = true then .idle else .wa set true), upd x.M k (x.must k set bg), upd x.R k r, x.bx⟩
/-- A way of lying of what stands in relation to what lies. -/
def Lies.rel {σ τ : Type} (P : Lies σ) (J : σ → τ → Prop) : Lies τ where
  lie w A x := ∃ s, P.lie w A s ∧ J s x
  keep := fun ⟨s, h, j⟩ hk hn => ⟨s, P.keep h hk hn, j⟩
  lt := fun ⟨_, h, _⟩ k hA => P.lt h k hA
theorem Lies.rel_to {σ τ : Type} {P : Lies σ} {J : σ → τ → Prop} {w w' : World} {A : Nat → Prop} {s' : σ} {x' : τ} (h : P.To w A s' w') (j : J s' x') : (P.rel J).To w A x' w' := by
  obtain ⟨A', a, b, c⟩ := h
  exact ⟨A', ⟨s', a, j⟩, b, c⟩
/-- A way of lying with blocks beside it that never change. -/
def Lies.consts {σ : Type} (P : Lies σ) : Lies (σ × List (Nat × Obj)) where
  lie w A x := ∃ A0, P.lie w A0 x.1 ∧ (∀ c ∈ x.2, w.heap[c.1]? = some c.2 ∧ ¬ A0 c.1) ∧ ∀ k, A k ↔ A0 k ∨ ∃ c ∈ x.2, c.1 = k
  keep := by
    rintro w w' A S ⟨s, cs⟩ ⟨A0, h1, h2, h3⟩ hk hn
    exact ⟨A0, P.keep h1 hk (fun k hk' => hn k ((h3 k).2 (.inl hk'))), fun c hc => ⟨by rw [hk.block c.1 (by obtain ⟨h, -⟩ := Array.getElem?_eq_some_iff.1 (h2 c hc).1; exact h) (hn c.1 ((h3 c.1).2 (.inr ⟨c, hc, rfl⟩)))]; exact (h2 c hc).1, (h2 c hc).2⟩, h3⟩
  lt := by
    rintro w A ⟨s, cs⟩ ⟨A0, h1, h2, h3⟩ k hk
    rcases (h3 k).1 hk with e | ⟨c, hc, rfl⟩
    · exact P.lt h1 k e
    · obtain ⟨h, -⟩ := Array.getElem?_eq_some_iff.1 (h2 c hc).1; exact h
section
variable {σ : Type} {P : Lies σ} {w w' w'' : World} {A A0 : Nat → Prop} {s s' : σ} {cs : List (Nat × Obj)}
theorem Lies.consts_has (h : P.consts.lie w A (s, cs)) : ∃ A0, P.lie w A0 s ∧ (∀ c ∈ cs, w.heap[c.1]? = some c.2 ∧ ¬ A0 c.1) ∧ ∀ k, A k ↔ A0 k ∨ ∃ c ∈ cs, c.1 = k := h
theorem Lies.consts_turn (h1 : P.lie w A0 s) (h2 : ∀ c ∈ cs, w.heap[c.1]? = some c.2 ∧ ¬ A0 c.1) (h3 : ∀ k, A k ↔ A0 k ∨ ∃ c ∈ cs, c.1 = k) (ht : P.To w A0 s' w') : P.consts.To w A (s', cs) w' := by
  obtain ⟨A1, a, b, f⟩ := ht
  have lt : ∀ c ∈ cs, c.1 < w.heap.size := fun c hc => by obtain ⟨h, -⟩ := Array.getElem?_eq_some_iff.1 (h2 c hc).1; exact h
  refine ⟨fun k => A1 k ∨ ∃ c ∈ cs, c.1 = k, ⟨A1, a, fun c hc => ⟨by rw [b.block c.1 (lt c hc) (h2 c hc).2]; exact (h2 c hc).1, fun e => ?_⟩, fun _ => Iff.rfl⟩, b.mono (fun k _ e => (h3 k).2 (.inl e)), fun k hk => ?_⟩
  · exact (f c.1 e).elim (h2 c hc).2 (fun e => by have := lt c hc; omega)
  · rcases hk with e | e
    · exact (f k e).elim (fun e => .inl ((h3 k).2 (.inl e))) .inr
    · exact .inl ((h3 k).2 (.inr e))
/-- A turn, and one constant block more. -/
theorem Lies.consts_new (h1 : P.lie w A0 s) (h2 : ∀ c ∈ cs, w.heap[c.1]? = some c.2 ∧ ¬ A0 c.1) (h3 : ∀ k, A k ↔ A0 k ∨ ∃ c ∈ cs, c.1 = k) (ht : P.To w A0 s' w') {b : Nat} {o : Obj} (hb : b = w'.heap.size) (ho : w''.heap[b]? = some o) (hk : Keep Nil w' w'') : P.consts.To w A (s', cs ++ [(b, o)]) w'' := by
  obtain ⟨A2, ⟨A1, a, c, d⟩, e, f⟩ := Lies.consts_turn h1 h2 h3 ht
  have lt1 := P.lt a
  refine ⟨fun k => A2 k ∨ k = b, ⟨A1, P.keep a hk (fun _ _ h => h), fun q hq => ?_, fun k => ?_⟩, e.trans hk (fun _ _ h => h.elim), fun k hk' => ?_⟩
  · rcases List.mem_append.1 hq with hq | hq
    · have lt : q.1 < w'.heap.size := by obtain ⟨h, -⟩ := Array.getElem?_eq_some_iff.1 (c q hq).1; exact h
      exact ⟨by rw [hk.block q.1 lt (fun h => h)]; exact (c q hq).1, (c q hq).2⟩
    · simp only [List.mem_singleton] at hq
      subst hq
      exact ⟨ho, fun h => by have := lt1 _ h; simp only at this; omega⟩
  · simp only [d k, List.mem_append, List.mem_singleton]
    constructor
    · rintro ((h | ⟨q, hq, h⟩) | rfl)
      · exact .inl h
      · exact .inr ⟨q, .inl hq, h⟩
      · exact .inr ⟨_, .inr rfl, rfl⟩
    · rintro (h | ⟨q, hq | rfl, h⟩)
      · exact .inl (.inl h)
      · exact .inl (.inr ⟨q, hq, h⟩)
      · exact .inr h.symm
  · rcases hk' with h | h
    · exact f k h
    · have := e.size; exact .inr (by omega)
end
end Go.Lf
namespace Go.Lf
open Go.RowKit
/-- The boxes of the operations are among the constant blocks. -/
structure BoxJ (n : Nat) (cs : List (Nat × Obj)) (tb : Nat → Option Nat) (en wa : Nat → Obj) (x : RX) : Prop where
  en : ∀ (k : Nat) (v : Int), k < n → x.T k = .en v → ∃ b, tb k = some b ∧ (x.bx k, en b) ∈ cs
  wa : ∀ (k : Nat) (set : Int) (bg : Bool), k < n → x.T k = .wa set bg → ∃ b, tb k = some b ∧ (x.bx k, wa b) ∈ cs
section
variable {n k : Nat} {cs cs' : List (Nat × Obj)} {tb tb' : Nat → Option Nat} {en wa : Nat → Obj} {x x' : RX}
/-- Only thread k has turned, and what it does is of the same kind or needs no box. -/
theorem BoxJ.turn (h : BoxJ n cs tb en wa x) (hT : ∀ i, i ≠ k → x'.T i = x.T i) (hb : ∀ i, i ≠ k → x'.bx i = x.bx i) (ht : ∀ i, i ≠ k → ∀ b, tb i = some b → tb' i = some b) (hc : ∀ c ∈ cs, c ∈ cs')
    (hen : ∀ v, x'.T k = .en v → ∃ b, tb' k = some b ∧ (x'.bx k, en b) ∈ cs') (hwa : ∀ set bg, x'.T k = .wa set bg → ∃ b, tb' k = some b ∧ (x'.bx k, wa b) ∈ cs') : BoxJ n cs' tb' en wa x' := by
  refine ⟨fun i v hi hv => ?_, fun i set bg hi hv => ?_⟩
  · by_cases e : i = k
    · subst e; exact hen v hv
    · obtain ⟨b, h1, h2⟩ := h.en i v hi (by rw [← hT i e]; exact hv)
      exact ⟨b, ht i e b h1, by rw [hb i e]; exact hc _ h2⟩
  · by_cases e : i = k
    · subst e; exact hwa set bg hv
    · obtain ⟨b, h1, h2⟩ := h.wa i set bg hi (by rw [← hT i e]; exact hv)
      exact ⟨b, ht i e b h1, by rw [hb i e]; exact hc _ h2⟩
end
end Go.Lf
