/- A range over a function whose own state lies in one cell, the loop's body never leaving: the walk's law. No program is named here. -/
import Derived.RangeFuncNested
import Derived.RangeFuncBound
import Derived.RangeFuncCalls
import Derived.RangeFuncLeaves
import Derived.Shelf.Abstract
import Derived.Shelf.RegionOpen
import Derived.OwnWalkIn
import Derived.TacticsInMore
import Derived.LoopNIn
import Derived.LoopIn
import Derived.Maps.AppendAt
import Derived.Test.YtldjlcdccnnogaaGreatBase
namespace Go.Lf
open Go.RowKit Go.Shelf

/-- What an iterator that keeps a number in the cell Bc owes: each x of xs goes to yield, in order, while the rounds say true. J c pre: the cell holds c, pre has come. -/
def SeqRuns {α : Type} (F : Fence) (n : Nat) (P : Program) (g : Nat) (lb : Array Value) (encs : α → Array Value) (Bc : Nat) (T : TypeId) (c0 : Value) (xs : List α) : Prop :=
  ∀ (l : Nat) (J : Value → List α → World → Prop) (W : World),
    (∀ c pre W1, J c pre W1 → W1.heap[Bc]? = some (.cells #[c] T (0, 0))) → (∀ c c' pre W1, J c pre W1 → J c' pre (W1.setCell ⟨Bc, 0, none⟩ c')) → (∀ c pre W1, J c pre W1 → J c pre W1.drew) →
    (∀ c pre x W1, J c pre W1 → x ∈ xs → pre.length < xs.length → YieldAt F (n - 1) P l (encs x) W1 fun e W' => e = .returned (.bool true) ∧ J c (pre ++ [x]) W') → J c0 [] W →
    CallsIn F n P g (#[.func (.yield l) #[] #[]] ++ lb) W fun e W' => (∃ v, e = .returned v) ∧ ∃ c, J c xs W'

/-- How the body may be left: off its end. -/
def runPost {α : Type} (I : Value → List α → World → Prop) (c : Value) (xs : List α) (W : World) : Exit → Act → World → Prop
  | .normal, _, W' => KeepsOthers W W' ∧ I c xs W'
  | _, _, _ => False

theorem putObj_old {W : World} {r k : Nat} {o o' : Obj} (h : W.heap[k]? = some o) (hne : k ≠ r) : (W.putObj r o').heap[k]? = some o := by rw [World.putObj_heap_other hne]; exact h
theorem Keep.putObj {S : Nat → Prop} {a w : World} (h : Keep S a w) {r : Nat} (hr : a.heap.size ≤ r) (o : Obj) : Keep S a (w.putObj r o) :=
  ⟨h.os, h.tape, h.output, by simpa using h.size, fun k hk hn => by rw [World.putObj_heap_other (by omega)]; exact h.block k hk hn⟩
theorem Rd.putObj {w : World} {r size n : Nat} {v : Value} {xs : List Value} {o : Obj} (o' : Obj) (h : Rd w size v n xs) (ho : w.heap[r]? = some o) (hc : o.isCells = false) : Rd (w.putObj r o') size v n xs := by
  obtain ⟨a, c, rfl, hl, h' | ⟨b, off, rfl, hcell⟩ | h'⟩ := h
  · exact ⟨a, c, rfl, hl, .inl h'⟩
  · refine ⟨_, c, rfl, hl, .inr <| .inl ⟨b, off, rfl, fun j u hu => ?_⟩⟩
    have h1 := hcell j u hu
    rw [← h1]
    refine World.cell?_of_block (World.putObj_heap_other (fun e => ?_))
    subst e
    unfold World.cell? at h1
    rw [ho] at h1
    cases o <;> simp_all [Obj.isCells]
  · exact ⟨_, c, rfl, hl, .inr <| .inr h'⟩

variable {F : Fence} {n : Nat} {P : Program}

theorem wpIn_rangeFunc_run {α : Type} {g : Operand} {ps : Array Tmp} {assign body : Code} {Q : Exit → Act → World → Prop} {a : Act} {w : World}
    (hro : F.round = none) (h1 : 1 ≤ n) {gf : Nat} {lb : Array Value} (hg : a.eval g = .func (.func gf) #[] lb) (hFg : F.fn gf) (eg : ∀ args w, (callFunc gf args).run P w = .ok (.enter gf args) w)
    {encs : α → Array Value} {Bc : Nat} {T : TypeId} {c0 : Value} {xs : List α} (hseq : SeqRuns F (n - 1) P gf lb encs Bc T c0 xs) (hps : ∀ x, (encs x).size = ps.size)
    (I : Value → List α → World → Prop) (hbox : ∀ c pre W, I c pre W → W.heap[Bc]? = some (.cells #[c] T (0, 0))) (hset : ∀ c c' pre W, I c pre W → I c' pre (W.setCell ⟨Bc, 0, none⟩ c')) (hdr : ∀ c pre W, I c pre W → I c pre W.drew)
    (hal : ∀ c pre W o, I c pre W → I c pre (W.alloc o)) (hput : ∀ c pre W r o o', I c pre W → w.heap.size ≤ r → W.heap[r]? = some o → o.isCells = false → I c pre (W.putObj r o'))
    (h0 : I c0 [] w) (a₁ : α → Act)
    (hassign : ∀ (l : Nat) (x : α) (W : World) (K : Act → World → Prop), K (a₁ x) W →
      assign.wpIn (F.inRound l) (n - 1 - 1) P (Exit.then K (fun _ _ _ => False)) { tmps := (ps.zip (encs x)).foldl (fun t (p, v) => t.setIfInBounds p v) a.tmps, defers := [] } W)
    (hbody : ∀ (l : Nat) (c : Value) (pre : List α) (x : α) (W : World), I c pre W → x ∈ xs → pre.length < xs.length → body.wpIn (F.inRound l) (n - 1 - 1) P (runPost I c (pre ++ [x]) W) (a₁ x) W)
    (hdone : ∀ (D : Nat) (c : Value) (W : World), w.heap.size ≤ D → I c xs W → W.heap[D]? = some (.deferred (some [])) → Q .normal { a with defers := { target := .collected D, args := #[] } :: a.defers } W) :
    (Code.rangeFunc g ps assign body).wpIn F n P Q a w := by
  refine wpIn_rangeFunc ?_
  intro fn hfn
  rw [hro]
  obtain ⟨rec, hrec⟩ : ∃ rec : LoopState → Loop, rec = fun st => { state := st, pending := none, fn, tmps := a.tmps, params := ps, assign, body, defers := w.heap.size } := ⟨_, rfl⟩
  obtain ⟨W1, hW1⟩ : ∃ W1, (w.alloc (.deferred (some []))).alloc (.loop (rec .ready)) = W1 := ⟨_, rfl⟩
  have hL1 : W1.heap[w.heap.size + 1]? = some (.loop (rec .ready)) := by
    rw [← hW1]; have := World.alloc_heap_new (w.alloc (.deferred (some []))) (.loop (rec .ready)); rwa [World.size_alloc] at this
  have hK1 : W1.heap[w.heap.size]? = some (.deferred (some [])) := by
    rw [← hW1]; exact (Below.heap_alloc _ _ _ (by simp)).trans (World.alloc_heap_new w _)
  have hI1 : I c0 [] W1 := by rw [← hW1]; exact hal _ _ _ _ (hal _ _ _ _ h0)
  have hne : ∀ {W : World} {c : Value} {k : Nat} {o : Obj}, W.heap[Bc]? = some (.cells #[c] T (0, 0)) → W.heap[k]? = some o → o.isCells = false → k ≠ Bc := by
    intro W c k o hb hk ho e
    subst e
    rw [hb] at hk
    cases hk
    cases ho
  refine ⟨w.heap.size + 1, [{ target := .collected w.heap.size, args := #[] }], W1, { target := .fn (.func gf) lb, args := #[.func (.yield (w.heap.size + 1)) #[] #[]] }, W1, gf,
    #[.func (.yield (w.heap.size + 1)) #[] #[]] ++ lb, W1, ?_, ?_, ?_, ?_, fun _ => h1, ?_⟩
  · rw [← hW1, hrec]; exact run_enterLoop_outer _ _ _ _ _
  · simp only [resolve, hg]
    simp [go_sem]
  · intro f' hf'; simp [Target.leads] at hf'; subst hf'; exact hFg
  · simp [invoke, go_sem, eg]
  · refine (hseq (w.heap.size + 1)
      (fun c pre W => I c pre W ∧ W.heap[w.heap.size + 1]? = some (.loop (rec .ready)) ∧ W.heap[w.heap.size]? = some (.deferred (some [])))
      W1 (fun c pre W h => hbox c pre W h.1)
      (fun c c' pre W h => ⟨hset c c' pre W h.1, set_other h.2.1 (hne (hbox _ _ _ h.1) h.2.1 rfl) _, set_other h.2.2 (hne (hbox _ _ _ h.1) h.2.2 rfl) _⟩)
      (fun c pre W h => ⟨hdr c pre W h.1, h.2.1, h.2.2⟩)
      ?_ ⟨hI1, hL1, hK1⟩).mono ?_
    · rintro c pre x W ⟨hi, hl, hk⟩ hx hlen
      have hlt : w.heap.size + 1 < W.heap.size := (Array.getElem?_eq_some_iff.1 hl).1
      have hy := run_yield (P := P) (args := encs x) hl (by rw [hrec]; exact hps x)
      rw [hrec] at hy
      refine ⟨fn, _, assign, body, hy, roundIn_of_wpIn hfn (hassign _ x W _ ⟨_, run_beginRound hl (by rw [hrec]), ?_⟩)⟩
      have hl2 : (W.putObj (w.heap.size + 1) (.loop { rec .ready with state := .busy })).heap[w.heap.size + 1]? = some (.loop { rec .ready with state := .busy }) := World.putObj_heap_same hlt
      have hk2 : (W.putObj (w.heap.size + 1) (.loop { rec .ready with state := .busy })).heap[w.heap.size]? = some (.deferred (some [])) := (World.putObj_heap_other (by omega)).trans hk
      refine wpIn_mono (hbody _ c pre x _ (hput _ _ _ _ _ _ hi (by omega) hl rfl) hx hlen) ?_
      rintro e a3 W3 hp
      cases e with
      | normal =>
        obtain ⟨hk3, hi3⟩ := hp
        have hl3 := hk3.same _ _ hl2 rfl
        have hr := run_endRound (P := P) none hl3
        refine ⟨_, _, hr, rfl, hput _ _ _ _ _ _ hi3 (by omega) hl3 rfl, ?_, (World.putObj_heap_other (by omega)).trans (hk3.same _ _ hk2 rfl)⟩
        rw [World.putObj_heap_same (Array.getElem?_eq_some_iff.1 hl3).1, hrec]
        rfl
      | ret => exact hp.elim
      | exit id => exact hp.elim
      | goto t => exact hp.elim
      | panic ch => exact hp.elim
      | outgrown => exact hp.elim
    · rintro e W2 ⟨⟨v, rfl⟩, c, hi, hl, hk⟩
      exact ⟨none, _, by have := run_endLoop (P := P) hl (by rw [hrec]; simp); rw [hrec] at this; exact this, hdone _ c _ (Nat.le_refl _) (hput _ _ _ _ _ _ hi (by omega) hl rfl) ((World.putObj_heap_other (by omega)).trans hk)⟩
end Go.Lf
