/- Objects of several blocks beside a system. -/
import Derived.Test.YtihgfklajhhikaaTwo
set_option linter.unusedVariables false
set_option linter.unusedSimpArgs false
namespace Go.Lf
open Go.RowKit
/-- A way in which an object lies at blocks of its own. -/
structure ObLies (ω : Type) where
  at_ : World → ω → Prop
  has : ω → Nat → Prop
  keep : ∀ {w w' : World} {o : ω} {S : Nat → Prop}, at_ w o → Keep S w w' → (∀ k, has o k → ¬ S k) → at_ w' o
  lt : ∀ {w : World} {o : ω} {k : Nat}, at_ w o → has o k → k < w.heap.size
/-- Objects beside a system. -/
structure ObjsB {σ ω : Type} (P : Lies σ) (O : ObLies ω) (w : World) (A : Nat → Prop) (s : σ) (ops : List ω) (F : Nat → Prop) : Prop where
  sys : P.lie w F s
  objs : ∀ (i : Nat) (o : ω), ops[i]? = some o → O.at_ w o ∧ ∀ k, O.has o k → ¬ F k
  apart : ∀ (i j : Nat) (o p : ω) (k : Nat), ops[i]? = some o → ops[j]? = some p → O.has o k → O.has p k → i = j
  foot : ∀ k, A k ↔ F k ∨ ∃ (i : Nat) (o : ω), ops[i]? = some o ∧ O.has o k
section
variable {σ ω : Type} {P : Lies σ} {O : ObLies ω} {w w' : World} {A F F' : Nat → Prop} {s s' : σ} {ops ops' : List ω}
theorem ObjsB.lt (h : ObjsB P O w A s ops F) (k : Nat) (hA : A k) : k < w.heap.size := by
  rcases (h.foot k).1 hA with e | ⟨i, o, ho, hh⟩
  · exact P.lt h.sys k e
  · exact O.lt (h.objs i o ho).1 hh
theorem ObjsB.keep (h : ObjsB P O w A s ops F) {T : Nat → Prop} (hk : Keep T w w') (hn : ∀ k, A k → ¬ T k) : ObjsB P O w' A s ops F :=
  ⟨P.keep h.sys hk (fun k hF => hn k ((h.foot k).2 (.inl hF))), fun i o ho => ⟨O.keep (h.objs i o ho).1 hk (fun k hh => hn k ((h.foot k).2 (.inr ⟨i, o, ho, hh⟩))), (h.objs i o ho).2⟩, h.apart, h.foot⟩
def Lies.objsB (P : Lies σ) (O : ObLies ω) : Lies (σ × List ω) where
  lie w A x := ∃ F, ObjsB P O w A x.1 x.2 F
  keep := fun ⟨F, h⟩ hk hn => ⟨F, h.keep hk hn⟩
  lt := fun ⟨_, h⟩ k hA => h.lt k hA
/-- What is made of the objects: those that stay, and those that are as new. -/
theorem ObjsB.to (h : ObjsB P O w A s ops F) (t : Nat) (hs : P.lie w' F' s') (hk : Keep (fun k => F k ∨ ∃ o, ops[t]? = some o ∧ O.has o k) w w') (hf : Foot w F F')
    (hnew : ∀ (i : Nat) (o : ω), ops'[i]? = some o → (i ≠ t ∧ ops[i]? = some o) ∨ (O.at_ w' o ∧ ∀ k, O.has o k → ¬ F' k ∧ ((∃ p, ops[t]? = some p ∧ O.has p k) ∨ w.heap.size ≤ k)))
    (hone : ∀ (i j : Nat) (o p : ω), ops'[i]? = some o → ops'[j]? = some p → (i ≠ t ∧ ops[i]? = some o) ∨ (j ≠ t ∧ ops[j]? = some p) ∨ i = j) :
    ∃ A', ObjsB P O w' A' s' ops' F' ∧ Keep A w w' ∧ Foot w A A' := by
  refine ⟨fun k => F' k ∨ ∃ (i : Nat) (o : ω), ops'[i]? = some o ∧ O.has o k, ⟨hs, fun i o ho => ?_, fun i j o p k ho hp ho' hp' => ?_, fun _ => Iff.rfl⟩, hk.mono (fun k _ hk => (h.foot k).2 ?_), fun k hk' => ?_⟩
  · rcases hnew i o ho with ⟨e1, e2⟩ | ⟨e1, e2⟩
    · obtain ⟨ho2, hF⟩ := h.objs i o e2
      refine ⟨O.keep ho2 hk fun k hh e => ?_, fun k hh e => (hf k e).elim (hF k hh) (fun e => by have := O.lt ho2 hh; omega)⟩
      rcases e with e | ⟨p, hp, e⟩
      · exact hF k hh e
      · exact e1 (h.apart i t o p k e2 hp hh e)
    · exact ⟨e1, fun k hh => (e2 k hh).1⟩
  · have old : ∀ (i j : Nat) (o p : ω), i ≠ t → ops[i]? = some o → ops'[j]? = some p → O.has o k → O.has p k → i = j := by
      intro i j o p hi ho hp ho' hp'
      have hl := O.lt (h.objs i o ho).1 ho'
      rcases hnew j p hp with ⟨e1, e2⟩ | ⟨e1, e2⟩
      · exact h.apart i j o p k ho e2 ho' hp'
      · rcases (e2 k hp').2 with ⟨q, hq, e⟩ | e
        · exact absurd (h.apart i t o q k ho hq ho' e) hi
        · omega
    rcases hone i j o p ho hp with ⟨e1, e2⟩ | ⟨e1, e2⟩ | e
    · exact old i j o p e1 e2 hp ho' hp'
    · exact (old j i p o e1 e2 ho hp' ho').symm
    · exact e
  · rcases hk with e | ⟨o, ho, e⟩
    · exact .inl e
    · exact .inr ⟨t, o, ho, e⟩
  · rcases hk' with e | ⟨i, o, ho, hh⟩
    · exact (hf k e).elim (fun e => .inl ((h.foot k).2 (.inl e))) .inr
    · rcases hnew i o ho with ⟨e1, e2⟩ | ⟨e1, e2⟩
      · exact .inl ((h.foot k).2 (.inr ⟨i, o, e2, hh⟩))
      · rcases (e2 k hh).2 with ⟨q, hq, e⟩ | e
        · exact .inl ((h.foot k).2 (.inr ⟨t, q, hq, e⟩))
        · exact .inr e
/-- Object t has turned. -/
theorem ObjsB.one (h : ObjsB P O w A s ops F) {t : Nat} {o o' : ω} (ho : ops[t]? = some o) (hs : P.lie w' F' s') (ho' : O.at_ w' o') (hk : Keep (fun k => F k ∨ O.has o k) w w') (hf : Foot w F F') (hn : ∀ k, O.has o' k → ¬ F' k ∧ (O.has o k ∨ w.heap.size ≤ k)) :
    ∃ A', ObjsB P O w' A' s' (ops.set t o') F' ∧ Keep A w w' ∧ Foot w A A' := by
  refine h.to t hs (hk.mono fun k _ e => e.elim .inl (fun e => .inr ⟨o, ho, e⟩)) hf (fun i p hp => ?_) (fun i j p q hp hq => ?_)
  · rcases set_cases hp with ⟨i1, i2⟩ | ⟨i1, i2⟩
    · subst i2
      exact .inr ⟨ho', fun k hh => ⟨(hn k hh).1, (hn k hh).2.elim (fun e => .inl ⟨o, ho, e⟩) .inr⟩⟩
    · exact .inl ⟨i1, i2⟩
  · rcases set_cases hp with ⟨i1, i2⟩ | ⟨i1, i2⟩
    · rcases set_cases hq with ⟨j1, j2⟩ | ⟨j1, j2⟩
      · exact .inr (.inr (i1.trans j1.symm))
      · exact .inr (.inl ⟨j1, j2⟩)
    · exact .inl ⟨i1, i2⟩
/-- The system has turned. -/
theorem ObjsB.none (h : ObjsB P O w A s ops F) (hs : P.lie w' F' s') (hk : Keep F w w') (hf : Foot w F F') : ∃ A', ObjsB P O w' A' s' ops F' ∧ Keep A w w' ∧ Foot w A A' :=
  h.to ops.length hs (hk.mono fun k _ e => .inl e) hf (fun i p hp => .inl ⟨by have := (List.getElem?_eq_some_iff.1 hp).1; omega, hp⟩) (fun i j p q hp hq => .inl ⟨by have := (List.getElem?_eq_some_iff.1 hp).1; omega, hp⟩)
/-- A new object. -/
theorem ObjsB.new (h : ObjsB P O w A s ops F) {o : ω} (hs : P.lie w' F' s') (ho : O.at_ w' o) (hk : Keep F w w') (hf : Foot w F F') (hn : ∀ k, O.has o k → ¬ F' k ∧ w.heap.size ≤ k) : ∃ A', ObjsB P O w' A' s' (ops ++ [o]) F' ∧ Keep A w w' ∧ Foot w A A' := by
  refine h.to ops.length hs (hk.mono fun k _ e => .inl e) hf (fun i p hp => ?_) (fun i j p q hp hq => ?_)
  · rcases get_snoc hp with ⟨i1, i2⟩ | ⟨i1, i2⟩
    · subst i2; exact .inr ⟨ho, fun k hh => ⟨(hn k hh).1, .inr (hn k hh).2⟩⟩
    · exact .inl ⟨i1, i2⟩
  · rcases get_snoc hp with ⟨i1, i2⟩ | ⟨i1, i2⟩
    · rcases get_snoc hq with ⟨j1, j2⟩ | ⟨j1, j2⟩
      · exact .inr (.inr (i1.trans j1.symm))
      · exact .inr (.inl ⟨j1, j2⟩)
    · exact .inl ⟨i1, i2⟩
theorem ObjsB.same (h : ObjsB P O w A s ops F) (hk : Keep Nil w w') : ∃ A', ObjsB P O w' A' s ops F ∧ Keep A w w' ∧ Foot w A A' :=
  ⟨A, h.keep hk (fun _ _ h => h), hk.mono (fun _ _ h => h.elim), fun _ h => .inl h⟩
theorem ObjsB.init (hs : P.lie w F s) : ObjsB P O w F s [] F := ⟨hs, fun i o hb => by simp at hb, fun i j o p k hb => by simp at hb, fun k => by simp⟩
end
section
variable {σ τ : Type} {P : Lies σ} {R : Lies τ} {w wr w' : World} {L : Nat → Prop} {s : σ} {r : τ} {X : Type}
/-- A call of the first side whose outcome hangs on what it lays. -/
theorem Two.call1x (h : Two P R w L s r wr) {Q : Program} {f : FuncId} {args : Array Value} {Φ : X → Ending → Prop} {s' : X → σ} (hc : ∀ A, P.lie wr A s → Calls Q f args wr fun e w' => ∃ x, Φ x e ∧ P.To wr A (s' x) w') :
    Calls Q f args wr fun e w' => ∃ x, Φ x e ∧ Two P R w L (s' x) r w' ∧ Keep (Out w L) wr w' := by
  obtain ⟨⟨A, B, h1, h2, h3, h4⟩, h5, h6⟩ := h
  exact (hc A h1).mono fun e w' ⟨x, a, b⟩ => ⟨x, a, Two.turn1 h1 h2 h3 h4 h5 h6 b⟩
theorem Two.call2x (h : Two P R w L s r wr) {Q : Program} {f : FuncId} {args : Array Value} {Φ : X → Ending → Prop} {r' : X → τ} (hc : ∀ B, R.lie wr B r → Calls Q f args wr fun e w' => ∃ x, Φ x e ∧ R.To wr B (r' x) w') :
    Calls Q f args wr fun e w' => ∃ x, Φ x e ∧ Two P R w L s (r' x) w' ∧ Keep (Out w L) wr w' := by
  obtain ⟨⟨A, B, h1, h2, h3, h4⟩, h5, h6⟩ := h
  exact (hc B h2).mono fun e w' ⟨x, a, b⟩ => ⟨x, a, Two.turn2 h1 h2 h3 h4 h5 h6 b⟩
end
end Go.Lf
