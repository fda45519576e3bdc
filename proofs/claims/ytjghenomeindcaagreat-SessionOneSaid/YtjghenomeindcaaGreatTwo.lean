/- Two sides that lie apart in one memory, and the blocks of the walk itself. -/
import Derived.Test.YtjghenomeindcaaGreatFlat7
set_option linter.unusedVariables false
set_option linter.unusedSimpArgs false
namespace Go.Lf
open Go.RowKit
/-- A way in which a state lies in a world, at a set of blocks. -/
structure Lies (σ : Type) where
  lie : World → (Nat → Prop) → σ → Prop
  keep : ∀ {w w' : World} {A S : Nat → Prop} {s : σ}, lie w A s → Keep S w w' → (∀ k, A k → ¬ S k) → lie w' A s
  lt : ∀ {w : World} {A : Nat → Prop} {s : σ}, lie w A s → ∀ k, A k → k < w.heap.size
/-- A call has turned the state. -/
def Lies.To {σ : Type} (P : Lies σ) (w : World) (A : Nat → Prop) (s' : σ) (w' : World) : Prop := ∃ A', P.lie w' A' s' ∧ Keep A w w' ∧ Foot w A A'
/-- What neither side may turn: the walk's own blocks, and what was there before. -/
def Out (w : World) (L : Nat → Prop) : Nat → Prop := fun k => ¬ L k ∧ w.heap.size ≤ k
structure Two {σ τ : Type} (P : Lies σ) (R : Lies τ) (w : World) (L : Nat → Prop) (s : σ) (r : τ) (wr : World) : Prop where
  ex : ∃ A B, P.lie wr A s ∧ R.lie wr B r ∧ (∀ k, A k → ¬ B k ∧ ¬ L k ∧ w.heap.size ≤ k) ∧ (∀ k, B k → ¬ L k ∧ w.heap.size ≤ k)
  ll : ∀ k, L k → k < wr.heap.size ∧ w.heap.size ≤ k
  own : Keep Nil w wr

section
variable {σ τ : Type} {P : Lies σ} {R : Lies τ} {w wr w' : World} {L : Nat → Prop} {s s' : σ} {r r' : τ}
theorem Lies.quiet {A : Nat → Prop} (h : P.lie wr A s) (hk : Keep Nil wr w') : P.lie w' A s := P.keep h hk (fun _ _ h => h)
theorem Two.quiet (h : Two P R w L s r wr) (hk : Keep Nil wr w') : Two P R w L s r w' := by
  obtain ⟨⟨A, B, h1, h2, h3, h4⟩, h5, h6⟩ := h
  exact ⟨⟨A, B, P.keep h1 hk (fun _ _ h => h), R.keep h2 hk (fun _ _ h => h), h3, h4⟩, fun k hk' => ⟨by have := (h5 k hk').1; have := hk.size; omega, (h5 k hk').2⟩, h6.trans hk (fun _ _ h => h)⟩
theorem Two.loc (h : Two P R w L s r wr) (hk : Keep L wr w') {L' : Nat → Prop} (hL : ∀ k, L' k → L k ∨ (wr.heap.size ≤ k ∧ k < w'.heap.size)) : Two P R w L' s r w' := by
  obtain ⟨⟨A, B, h1, h2, h3, h4⟩, h5, h6⟩ := h
  have hz := hk.size
  have h0 := h6.size
  have a1 := P.lt h1
  have b1 := R.lt h2
  refine ⟨⟨A, B, P.keep h1 hk (fun k hA hl => (h3 k hA).2.1 hl), R.keep h2 hk (fun k hB hl => (h4 k hB).1 hl), fun k hA => ⟨(h3 k hA).1, fun hl => ?_, (h3 k hA).2.2⟩, fun k hB => ⟨fun hl => ?_, (h4 k hB).2⟩⟩, fun k hl => ?_, h6.trans hk (fun j hj hl => by have := (h5 j hl).2; omega)⟩
  · rcases hL k hl with e | e
    · exact (h3 k hA).2.1 e
    · have := a1 k hA; omega
  · rcases hL k hl with e | e
    · exact (h4 k hB).1 e
    · have := b1 k hB; omega
  · rcases hL k hl with e | e
    · have := h5 k e; omega
    · omega
theorem Two.less (h : Two P R w L s r wr) {L' : Nat → Prop} (hL : ∀ k, L' k → L k) : Two P R w L' s r wr := h.loc (Keep.refl L wr) (fun k hk => .inl (hL k hk))
/-- A call of the first side. -/
theorem Two.turn1 {A : Nat → Prop} {B : Nat → Prop} (_h1 : P.lie wr A s) (h2 : R.lie wr B r) (h3 : ∀ k, A k → ¬ B k ∧ ¬ L k ∧ w.heap.size ≤ k) (h4 : ∀ k, B k → ¬ L k ∧ w.heap.size ≤ k) (h5 : ∀ k, L k → k < wr.heap.size ∧ w.heap.size ≤ k) (h6 : Keep Nil w wr) (ht : P.To wr A s' w') :
    Two P R w L s' r w' ∧ Keep (Out w L) wr w' := by
  obtain ⟨A', p, k, f⟩ := ht
  have hz := k.size
  have h0 := h6.size
  have b1 := R.lt h2
  refine ⟨⟨⟨A', B, p, R.keep h2 k (fun j hB hA => (h3 j hA).1 hB), fun j hA => ?_, h4⟩, fun j hl => ⟨by have := (h5 j hl).1; omega, (h5 j hl).2⟩, h6.trans k (fun j hj hA => by have := (h3 j hA).2.2; omega)⟩, k.mono (fun j _ hA => (h3 j hA).2)⟩
  rcases f j hA with e | e
  · exact h3 j e
  · exact ⟨fun hB => by have := b1 j hB; omega, fun hl => by have := (h5 j hl).1; omega, by omega⟩
theorem Two.turn2 {A : Nat → Prop} {B : Nat → Prop} (h1 : P.lie wr A s) (_h2 : R.lie wr B r) (h3 : ∀ k, A k → ¬ B k ∧ ¬ L k ∧ w.heap.size ≤ k) (h4 : ∀ k, B k → ¬ L k ∧ w.heap.size ≤ k) (h5 : ∀ k, L k → k < wr.heap.size ∧ w.heap.size ≤ k) (h6 : Keep Nil w wr) (ht : R.To wr B r' w') :
    Two P R w L s r' w' ∧ Keep (Out w L) wr w' := by
  obtain ⟨B', p, k, f⟩ := ht
  have hz := k.size
  have h0 := h6.size
  have a1 := P.lt h1
  refine ⟨⟨⟨A, B', P.keep h1 k (fun j hA hB => (h3 j hA).1 hB), p, fun j hA => ⟨fun hB => ?_, (h3 j hA).2⟩, fun j hB => ?_⟩, fun j hl => ⟨by have := (h5 j hl).1; omega, (h5 j hl).2⟩, h6.trans k (fun j hj hB => by have := (h4 j hB).2; omega)⟩, k.mono (fun j _ hB => h4 j hB)⟩
  · rcases f j hB with e | e
    · exact (h3 j hA).1 e
    · have := a1 j hA; omega
  · rcases f j hB with e | e
    · exact h4 j e
    · exact ⟨fun hl => by have := (h5 j hl).1; omega, by omega⟩
theorem Two.call1 (h : Two P R w L s r wr) {Q : Program} {f : FuncId} {args : Array Value} {Φ : Ending → World → Prop} (hc : ∀ A, P.lie wr A s → Calls Q f args wr fun e w' => Φ e w' ∧ P.To wr A s' w') :
    Calls Q f args wr fun e w' => Φ e w' ∧ Two P R w L s' r w' ∧ Keep (Out w L) wr w' := by
  obtain ⟨⟨A, B, h1, h2, h3, h4⟩, h5, h6⟩ := h
  exact (hc A h1).mono fun e w' ⟨a, b⟩ => ⟨a, Two.turn1 h1 h2 h3 h4 h5 h6 b⟩
theorem Two.call2 (h : Two P R w L s r wr) {Q : Program} {f : FuncId} {args : Array Value} {Φ : Ending → World → Prop} (hc : ∀ B, R.lie wr B r → Calls Q f args wr fun e w' => Φ e w' ∧ R.To wr B r' w') :
    Calls Q f args wr fun e w' => Φ e w' ∧ Two P R w L s r' w' ∧ Keep (Out w L) wr w' := by
  obtain ⟨⟨A, B, h1, h2, h3, h4⟩, h5, h6⟩ := h
  exact (hc B h2).mono fun e w' ⟨a, b⟩ => ⟨a, Two.turn2 h1 h2 h3 h4 h5 h6 b⟩
theorem Two.has1 (h : Two P R w L s r wr) : ∃ A, P.lie wr A s := by obtain ⟨⟨A, _, h1, -⟩, -⟩ := h; exact ⟨A, h1⟩
theorem Two.has2 (h : Two P R w L s r wr) : ∃ B, R.lie wr B r := by obtain ⟨⟨_, B, _, h1, -⟩, -⟩ := h; exact ⟨B, h1⟩
theorem Keep.loc {w0 : World} (hk : Keep (Out w0 L) wr w') {b : Nat} {o : Obj} (hb : wr.heap[b]? = some o) (hl : L b) : w'.heap[b]? = some o := hk.at hb (fun h => h.1 hl)
/-- Both sides made anew, one after the other. -/
theorem Two.fresh {w1 w2 : World} {A B : Nat → Prop} (k1 : Keep Nil w w1) (h1 : P.lie w1 A s) (a : ∀ k, A k → w.heap.size ≤ k) (k2 : Keep Nil w1 w2) (h2 : R.lie w2 B r) (b : ∀ k, B k → w1.heap.size ≤ k) : Two P R w Nil s r w2 := by
  have := k1.size
  exact ⟨⟨A, B, P.keep h1 k2 (fun _ _ h => h), h2, fun k hA => ⟨fun hB => by have := P.lt h1 k hA; have := b k hB; omega, fun h => h, a k hA⟩, fun k hB => ⟨fun h => h, by have := b k hB; omega⟩⟩, fun _ h => h.elim, k1.trans k2 (fun _ _ h => h)⟩
end
theorem get_snoc {α : Type} {l : List α} {o p : α} {i : Nat} (h : (l ++ [o])[i]? = some p) : (i = l.length ∧ p = o) ∨ (i ≠ l.length ∧ l[i]? = some p) := by
  by_cases hi : i < l.length
  · rw [List.getElem?_append_left hi] at h; exact .inr ⟨by omega, h⟩
  · rw [List.getElem?_append_right (by omega)] at h
    by_cases e : i = l.length
    · subst e; simp at h; exact .inl ⟨rfl, h.symm⟩
    · rw [List.getElem?_eq_none (by simp; omega)] at h; cases h
theorem row_beyond {wr w' : World} {e : TypeId} {size m : Nat} {v : Value} {xs : List Value} (ho : wr.ownsRow 0 e size v m xs) (hk : ∀ (k : Nat) (cs : Array Value), v.ownBlock = some k → wr.heap[k]? = some (.cells cs e (0, 0)) → w'.heap[k]? = some (.cells cs e (0, 0))) : w'.ownsRow 0 e size v m xs := by
  refine ⟨ho.1, ?_⟩
  rcases ho.2 with hz | ⟨q, cap, cur, rfl, h1, h2, h3⟩
  · exact .inl hz
  · exact .inr ⟨q, cap, cur, rfl, h1, hk q cur rfl h2, h3⟩
/-- A way in which an object lies at a block of its own. -/
structure OpLies (ω : Type) where
  at_ : World → Nat → ω → Prop
  keep : ∀ {w w' : World} {b : Nat} {o : ω} {S : Nat → Prop}, at_ w b o → Keep S w w' → ¬ S b → at_ w' b o
  lt : ∀ {w : World} {b : Nat} {o : ω}, at_ w b o → b < w.heap.size
/-- Objects beside a system: bl are their blocks. -/
structure ObjsAt {σ ω : Type} (P : Lies σ) (O : OpLies ω) (w : World) (A : Nat → Prop) (s : σ) (ops : List ω) (bl : List Nat) (F : Nat → Prop) : Prop where
  sys : P.lie w F s
  len : bl.length = ops.length
  objs : ∀ (i b : Nat) (o : ω), bl[i]? = some b → ops[i]? = some o → O.at_ w b o ∧ ¬ F b
  apart : ∀ i j b : Nat, bl[i]? = some b → bl[j]? = some b → i = j
  foot : ∀ k, A k ↔ F k ∨ k ∈ bl
section
variable {σ ω : Type} {P : Lies σ} {O : OpLies ω} {w w' : World} {A F F' : Nat → Prop} {s s' : σ} {ops ops' : List ω} {bl bl' : List Nat}
theorem ObjsAt.at (h : ObjsAt P O w A s ops bl F) {b : Nat} (hb : b ∈ bl) : ∃ (i : Nat) (o : ω), bl[i]? = some b ∧ ops[i]? = some o ∧ O.at_ w b o ∧ ¬ F b := by
  obtain ⟨i, hi⟩ := List.getElem?_of_mem hb
  obtain ⟨o, ho⟩ : ∃ o, ops[i]? = some o := ⟨_, List.getElem?_eq_getElem (by have := (List.getElem?_eq_some_iff.1 hi).1; have := h.len; omega)⟩
  exact ⟨i, o, hi, ho, h.objs i b o hi ho⟩
theorem ObjsAt.lt (h : ObjsAt P O w A s ops bl F) (k : Nat) (hA : A k) : k < w.heap.size := by
  rcases (h.foot k).1 hA with e | e
  · exact P.lt h.sys k e
  · obtain ⟨i, o, -, -, ho, -⟩ := h.at e; exact O.lt ho
theorem ObjsAt.keep (h : ObjsAt P O w A s ops bl F) {T : Nat → Prop} (hk : Keep T w w') (hn : ∀ k, A k → ¬ T k) : ObjsAt P O w' A s ops bl F :=
  ⟨P.keep h.sys hk (fun k hF => hn k ((h.foot k).2 (.inl hF))), h.len, fun i b o hb ho => ⟨O.keep (h.objs i b o hb ho).1 hk (hn b ((h.foot b).2 (.inr (List.mem_of_getElem? hb)))), (h.objs i b o hb ho).2⟩, h.apart, h.foot⟩
def Lies.objs (P : Lies σ) (O : OpLies ω) : Lies (σ × List ω × List Nat) where
  lie w A x := ∃ F, ObjsAt P O w A x.1 x.2.1 x.2.2 F
  keep := fun ⟨F, h⟩ hk hn => ⟨F, h.keep hk hn⟩
  lt := fun ⟨_, h⟩ k hA => h.lt k hA
theorem ObjsAt.to (h : ObjsAt P O w A s ops bl F) (t : Nat) (hs : P.lie w' F' s') (hk : Keep (fun k => F k ∨ bl[t]? = some k) w w') (hf : Foot w F F') (hl : bl'.length = ops'.length)
    (hnew : ∀ (i b : Nat) (o : ω), bl'[i]? = some b → ops'[i]? = some o → (i ≠ t ∧ bl[i]? = some b ∧ ops[i]? = some o) ∨ (O.at_ w' b o ∧ ¬ F' b)) (hbl : ∀ b ∈ bl', b ∈ bl ∨ w.heap.size ≤ b) (hap : ∀ i j b : Nat, bl'[i]? = some b → bl'[j]? = some b → i = j) :
    (P.objs O).To w A (s', ops', bl') w' := by
  refine ⟨fun k => F' k ∨ k ∈ bl', ⟨F', hs, hl, fun i b o hb ho => ?_, hap, fun _ => Iff.rfl⟩, hk.mono (fun k _ hk => (h.foot k).2 ?_), fun k hk => ?_⟩
  · rcases hnew i b o hb ho with ⟨e1, e2, e3⟩ | e
    · obtain ⟨ho2, hF⟩ := h.objs i b o e2 e3
      have hlt := O.lt ho2
      refine ⟨O.keep ho2 hk ?_, fun e => (hf b e).elim hF (fun e => by omega)⟩
      rintro (e | e)
      · exact hF e
      · exact e1 (h.apart i t b e2 e)
    · exact e
  · rcases hk with e | e
    · exact .inl e
    · exact .inr (List.mem_of_getElem? e)
  · rcases hk with e | e
    · exact (hf k e).elim (fun e => .inl ((h.foot k).2 (.inl e))) .inr
    · exact (hbl k e).elim (fun e => .inl ((h.foot k).2 (.inr e))) .inr
/-- Operation t has turned. -/
theorem ObjsAt.one (h : ObjsAt P O w A s ops bl F) {t b : Nat} {o' : ω} (hb : bl[t]? = some b) (hs : P.lie w' F' s') (ho : O.at_ w' b o') (hk : Keep (fun k => F k ∨ k = b) w w') (hf : Foot w F F') (hn : ¬ F' b) :
    (P.objs O).To w A (s', ops.set t o', bl) w' := by
  refine h.to t hs (hk.mono fun k _ e => ?_) hf (by simpa using h.len) (fun i b' p hb' hp => ?_) (fun b hb => .inl hb) h.apart
  · rcases e with e | e
    · exact .inl e
    · subst e; exact .inr hb
  · rcases set_cases hp with ⟨i1, i2⟩ | ⟨i1, i2⟩
    · subst i1; subst i2
      rw [hb] at hb'; cases hb'
      exact .inr ⟨ho, hn⟩
    · exact .inl ⟨i1, hb', i2⟩
/-- The system has turned. -/
theorem ObjsAt.none (h : ObjsAt P O w A s ops bl F) (hs : P.lie w' F' s') (hk : Keep F w w') (hf : Foot w F F') : (P.objs O).To w A (s', ops, bl) w' :=
  h.to bl.length hs (hk.mono fun k _ e => .inl e) hf h.len (fun i b' p hb' hp => .inl ⟨by have := (List.getElem?_eq_some_iff.1 hb').1; omega, hb', hp⟩) (fun b hb => .inl hb) h.apart
/-- A new object, at the first free block. -/
theorem ObjsAt.new (h : ObjsAt P O w A s ops bl F) {o : ω} (hs : P.lie w' F s') (ho : O.at_ w' w.heap.size o) (hk : Keep F w w') : (P.objs O).To w A (s', ops ++ [o], bl ++ [w.heap.size]) w' := by
  have nF : ¬ F w.heap.size := fun e => by have := P.lt h.sys _ e; omega
  have old : ∀ (i b : Nat), bl[i]? = some b → b < w.heap.size := fun i b hb => h.lt b ((h.foot b).2 (.inr (List.mem_of_getElem? hb)))
  refine h.to bl.length hs (hk.mono fun k _ e => .inl e) (fun k hk => .inl hk) (by simp [h.len]) (fun i b' p hb' hp => ?_) (fun b hb => ?_) (fun i j b hi hj => ?_)
  · rcases get_snoc hb' with ⟨e1, e2⟩ | ⟨e1, e2⟩ <;> rcases get_snoc hp with ⟨e3, e4⟩ | ⟨e3, e4⟩
    · subst e2; subst e4; exact .inr ⟨ho, nF⟩
    · exact absurd (e1.trans h.len) e3
    · exact absurd (e3.trans h.len.symm) e1
    · exact .inl ⟨e1, e2, e4⟩
  · rcases List.mem_append.1 hb with e | e
    · exact .inl e
    · simp only [List.mem_singleton] at e; exact .inr (by omega)
  · rcases get_snoc hi with ⟨e1, e2⟩ | ⟨e1, e2⟩ <;> rcases get_snoc hj with ⟨e3, e4⟩ | ⟨e3, e4⟩
    · exact e1.trans e3.symm
    · have := old j b e4; omega
    · have := old i b e2; omega
    · exact h.apart i j b e2 e4
theorem ObjsAt.same (h : ObjsAt P O w A s ops bl F) (hk : Keep Nil w w') : (P.objs O).To w A (s, ops, bl) w' :=
  ⟨A, ⟨F, h.keep hk (fun _ _ h => h)⟩, hk.mono (fun _ _ h => h.elim), fun _ h => .inl h⟩
theorem ObjsAt.init (hs : P.lie w F s) : ObjsAt P O w F s [] [] F := ⟨hs, rfl, fun i b o hb => by simp at hb, fun i j b hb => by simp at hb, fun k => by simp⟩
end
end Go.Lf

/-! Objects of several blocks beside a system. -/
set_option linter.unusedVariables false
set_option linter.unusedSimpArgs false
namespace Go.Lf
open Go.RowKit
/-- A way in which an object lies at blocks of its own. -/
structure ObLies (ω : Type) where
  at_ : World → ω → Prop
  has : ω → Nat → Prop
  keep : ∀ {w w' : World} {o : ω} {S : Nat → Prop}, at_ w o → Keep S w w' → (∀ k, has o k → ¬ S k) → at_ w' o
  lt : ∀ {w : World} {o : ω} {k : Nat}, at_ w o → has o k → k < w.heap.size
/-- Objects beside a system. -/
structure ObjsB {σ ω : Type} (P : Lies σ) (O : ObLies ω) (w : World) (A : Nat → Prop) (s : σ) (ops : List ω) (F : Nat → Prop) : Prop where
  sys : P.lie w F s
  objs : ∀ (i : Nat) (o : ω), ops[i]? = some o → O.at_ w o ∧ ∀ k, O.has o k → ¬ F k
  apart : ∀ (i j : Nat) (o p : ω) (k : Nat), ops[i]? = some o → ops[j]? = some p → O.has o k → O.has p k → i = j
  foot : ∀ k, A k ↔ F k ∨ ∃ (i : Nat) (o : ω), ops[i]? = some o ∧ O.has o k
section
variable {σ ω : Type} {P : Lies σ} {O : ObLies ω} {w w' : World} {A F F' : Nat → Prop} {s s' : σ} {ops ops' : List ω}
theorem ObjsB.lt (h : ObjsB P O w A s ops F) (k : Nat) (hA : A k) : k < w.heap.size := by
  rcases (h.foot k).1 hA with e | ⟨i, o, ho, hh⟩
  · exact P.lt h.sys k e
  · exact O.lt (h.objs i o ho).1 hh
theorem ObjsB.keep (h : ObjsB P O w A s ops F) {T : Nat → Prop} (hk : Keep T w w') (hn : ∀ k, A k → ¬ T k) : ObjsB P O w' A s ops F :=
  ⟨P.keep h.sys hk (fun k hF => hn k ((h.foot k).2 (.inl hF))), fun i o ho => ⟨O.keep (h.objs i o ho).1 hk (fun k hh => hn k ((h.foot k).2 (.inr ⟨i, o, ho, hh⟩))), (h.objs i o ho).2⟩, h.apart, h.foot⟩
def Lies.objsB (P : Lies σ) (O : ObLies ω) : Lies (σ × List ω) where
  lie w A x := ∃ F, ObjsB P O w A x.1 x.2 F
  keep := fun ⟨F, h⟩ hk hn => ⟨F, h.keep hk hn⟩
  lt := fun ⟨_, h⟩ k hA => h.lt k hA
/-- What is made of the objects: those that stay, and those that are as new. -/
theorem ObjsB.to (h : ObjsB P O w A s ops F) (t : Nat) (hs : P.lie w' F' s') (hk : Keep (fun k => F k ∨ ∃ o, ops[t]? = some o ∧ O.has o k) w w') (hf : Foot w F F')
    (hnew : ∀ (i : Nat) (o : ω), ops'[i]? = some o → (i ≠ t ∧ ops[i]? = some o) ∨ (O.at_ w' o ∧ ∀ k, O.has o k → ¬ F' k ∧ ((∃ p, ops[t]? = some p ∧ O.has p k) ∨ w.heap.size ≤ k)))
    (hone : ∀ (i j : Nat) (o p : ω), ops'[i]? = some o → ops'[j]? = some p → (i ≠ t ∧ ops[i]? = some o) ∨ (j ≠ t ∧ ops[j]? = some p) ∨ i = j) :
    ∃ A', ObjsB P O w' A' s' ops' F' ∧ Keep A w w' ∧ Foot w A A' := by
  refine ⟨fun k => F' k ∨ ∃ (i : Nat) (o : ω), ops'[i]? = some o ∧ O.has o k, ⟨hs, fun i o ho => ?_, fun i j o p k ho hp ho' hp' => ?_, fun _ => Iff.rfl⟩, hk.mono (fun k _ hk => (h.foot k).2 ?_), fun k hk' => ?_⟩
  · rcases hnew i o ho with ⟨e1, e2⟩ | ⟨e1, e2⟩
    · obtain ⟨ho2, hF⟩ := h.objs i o e2
      refine ⟨O.keep ho2 hk fun k hh e => ?_, fun k hh e => (hf k e).elim (hF k hh) (fun e => by have := O.lt ho2 hh; omega)⟩
      rcases e with e | ⟨p, hp, e⟩
      · exact hF k hh e
      · exact e1 (h.apart i t o p k e2 hp hh e)
    · exact ⟨e1, fun k hh => (e2 k hh).1⟩
  · have old : ∀ (i j : Nat) (o p : ω), i ≠ t → ops[i]? = some o → ops'[j]? = some p → O.has o k → O.has p k → i = j := by
      intro i j o p hi ho hp ho' hp'
      have hl := O.lt (h.objs i o ho).1 ho'
      rcases hnew j p hp with ⟨e1, e2⟩ | ⟨e1, e2⟩
      · exact h.apart i j o p k ho e2 ho' hp'
      · rcases (e2 k hp').2 with ⟨q, hq, e⟩ | e
        · exact absurd (h.apart i t o q k ho hq ho' e) hi
        · omega
    rcases hone i j o p ho hp with ⟨e1, e2⟩ | ⟨e1, e2⟩ | e
    · exact old i j o p e1 e2 hp ho' hp'
    · exact (old j i p o e1 e2 ho hp' ho').symm
    · exact e
  · rcases hk with e | ⟨o, ho, e⟩
    · exact .inl e
    · exact .inr ⟨t, o, ho, e⟩
  · rcases hk' with e | ⟨i, o, ho, hh⟩
    · exact (hf k e).elim (fun e => .inl ((h.foot k).2 (.inl e))) .inr
    · rcases hnew i o ho with ⟨e1, e2⟩ | ⟨e1, e2⟩
      · exact .inl ((h.foot k).2 (.inr ⟨i, o, e2, hh⟩))
      · rcases (e2 k hh).2 with ⟨q, hq, e⟩ | e
        · exact .inl ((h.foot k).2 (.inr ⟨t, q, hq, e⟩))
        · exact .inr e
/-- Object t has turned. -/
theorem ObjsB.one (h : ObjsB P O w A s ops F) {t : Nat} {o o' : ω} (ho : ops[t]? = some o) (hs : P.lie w' F' s') (ho' : O.at_ w' o') (hk : Keep (fun k => F k ∨ O.has o k) w w') (hf : Foot w F F') (hn : ∀ k, O.has o' k → ¬ F' k ∧ (O.has o k ∨ w.heap.size ≤ k)) :
    ∃ A', ObjsB P O w' A' s' (ops.set t o') F' ∧ Keep A w w' ∧ Foot w A A' := by
  refine h.to t hs (hk.mono fun k _ e => e.elim .inl (fun e => .inr ⟨o, ho, e⟩)) hf (fun i p hp => ?_) (fun i j p q hp hq => ?_)
  · rcases set_cases hp with ⟨i1, i2⟩ | ⟨i1, i2⟩
    · subst i2
      exact .inr ⟨ho', fun k hh => ⟨(hn k hh).1, (hn k hh).2.elim (fun e => .inl ⟨o, ho, e⟩) .inr⟩⟩
    · exact .inl ⟨i1, i2⟩
  · rcases set_cases hp with ⟨i1, i2⟩ | ⟨i1, i2⟩
    · rcases set_cases hq with ⟨j1, j2⟩ | ⟨j1, j2⟩
      · exact .inr (.inr (i1.trans j1.symm))
      · exact .inr (.inl ⟨j1, j2⟩)
    · exact .inl ⟨i1, i2⟩
/-- The system has turned. -/
theorem ObjsB.none (h : ObjsB P O w A s ops F) (hs : P.lie w' F' s') (hk : Keep F w w') (hf : Foot w F F') : ∃ A', ObjsB P O w' A' s' ops F' ∧ Keep A w w' ∧ Foot w A A' :=
  h.to ops.length hs (hk.mono fun k _ e => .inl e) hf (fun i p hp => .inl ⟨by have := (List.getElem?_eq_some_iff.1 hp).1; omega, hp⟩) (fun i j p q hp hq => .inl ⟨by have := (List.getElem?_eq_some_iff.1 hp).1; omega, hp⟩)
/-- A new object. -/
theorem ObjsB.new (h : ObjsB P O w A s ops F) {o : ω} (hs : P.lie w' F' s') (ho : O.at_ w' o) (hk : Keep F w w') (hf : Foot w F F') (hn : ∀ k, O.has o k → ¬ F' k ∧ w.heap.size ≤ k) : ∃ A', ObjsB P O w' A' s' (ops ++ [o]) F' ∧ Keep A w w' ∧ Foot w A A' := by
  refine h.to ops.length hs (hk.mono fun k _ e => .inl e) hf (fun i p hp => ?_) (fun i j p q hp hq => ?_)
  · rcases get_snoc hp with ⟨i1, i2⟩ | ⟨i1, i2⟩
    · subst i2; exact .inr ⟨ho, fun k hh => ⟨(hn k hh).1, .inr (hn k hh).2⟩⟩
    · exact .inl ⟨i1, i2⟩
  · rcases get_snoc hp with ⟨i1, i2⟩ | ⟨i1, i2⟩
    · rcases get_snoc hq with ⟨j1, j2⟩ | ⟨j1, j2⟩
      · exact .inr (.inr (i1.trans j1.symm))
      · exact .inr (.inl ⟨j1, j2⟩)
    · exact .inl ⟨i1, i2⟩
theorem ObjsB.same (h : ObjsB P O w A s ops F) (hk : Keep Nil w w') : ∃ A', ObjsB P O w' A' s ops F ∧ Keep A w w' ∧ Foot w A A' :=
  ⟨A, h.keep hk (fun _ _ h => h), hk.mono (fun _ _ h => h.elim), fun _ h => .inl h⟩
theorem ObjsB.init (hs : P.lie w F s) : ObjsB P O w F s [] F := ⟨hs, fun i o hb => by simp at hb, fun i j o p k hb => by simp at hb, fun k => by simp⟩
end
section
variable {σ τ : Type} {P : Lies σ} {R : Lies τ} {w wr w' : World} {L : Nat → Prop} {s : σ} {r : τ} {X : Type}
/-- A call of the first side whose outcome hangs on what it lays. -/
theorem Two.call1x (h : Two P R w L s r wr) {Q : Program} {f : FuncId} {args : Array Value} {Φ : X → Ending → Prop} {s' : X → σ} (hc : ∀ A, P.lie wr A s → Calls Q f args wr fun e w' => ∃ x, Φ x e ∧ P.To wr A (s' x) w') :
    Calls Q f args wr fun e w' => ∃ x, Φ x e ∧ Two P R w L (s' x) r w' ∧ Keep (Out w L) wr w' := by
  obtain ⟨⟨A, B, h1, h2, h3, h4⟩, h5, h6⟩ := h
  exact (hc A h1).mono fun e w' ⟨x, a, b⟩ => ⟨x, a, Two.turn1 h1 h2 h3 h4 h5 h6 b⟩
theorem Two.call2x (h : Two P R w L s r wr) {Q : Program} {f : FuncId} {args : Array Value} {Φ : X → Ending → Prop} {r' : X → τ} (hc : ∀ B, R.lie wr B r → Calls Q f args wr fun e w' => ∃ x, Φ x e ∧ R.To wr B (r' x) w') :
    Calls Q f args wr fun e w' => ∃ x, Φ x e ∧ Two P R w L s (r' x) w' ∧ Keep (Out w L) wr w' := by
  obtain ⟨⟨A, B, h1, h2, h3, h4⟩, h5, h6⟩ := h
  exact (hc B h2).mono fun e w' ⟨x, a, b⟩ => ⟨x, a, Two.turn2 h1 h2 h3 h4 h5 h6 b⟩
end
end Go.Lf
