/- read: a store and a read that the walk has made. -/
import Derived.Test.YtmafdjhjmnghcaaGreatReadStep2
import Derived.Test.YtmafdjhjmnghcaaGreatFieldP
import Derived.Test.YtmafdjhjmnghcaaGreatStoreEx
set_option linter.unusedVariables false
set_option linter.unusedSimpArgs false
namespace Go.Proofs.YtmafdjhjmnghcaaGreat
open Go.RowKit Go.Lf
structure RW (w wr : World) (c : Cfg) (b mb : Nat) (ws : List Int) (log : List Acc) (r : Nat) (s : RS) : Prop where
  ex : ∃ A, (StoreL c b mb).lie wr A (ws, log) ∧ (∀ k, A k → w.heap.size ≤ k) ∧ ¬ A r
  at_ : ReadAt wr r b s
  ge : w.heap.size ≤ r
  own : Keep Nil w wr
section
variable {w wr w' : World} {c : Cfg} {b mb r : Nat} {ws ws' : List Int} {log log' : List Acc} {s s' : RS}
theorem RW.sw (h : RW w wr c b mb ws log r s) : SW w wr c b mb ws log := by
  obtain ⟨⟨A, h1, h2, h3⟩, -, -, h6⟩ := h
  exact ⟨⟨A, h1, h2⟩, h6⟩
theorem RW.quiet (h : RW w wr c b mb ws log r s) (hk : Keep Nil wr w') : RW w w' c b mb ws log r s := by
  obtain ⟨⟨A, h1, h2, h3⟩, h4, h5, h6⟩ := h
  exact ⟨⟨A, (StoreL c b mb).keep h1 hk (fun _ _ h => h), h2, h3⟩, h4.keep hk (fun h => h), h5, h6.trans hk (fun _ _ h => h)⟩
theorem RW.new (h : SW w wr c b mb ws log) {e : Ending} (hn : RdNewTo wr b s e w') : e = .returned (.tuple #[.pointer (some ⟨wr.heap.size, 0, none⟩), .int .i64 0]) ∧ RW w w' c b mb ws log wr.heap.size s := by
  obtain ⟨⟨A, h1, h2⟩, h3⟩ := h
  obtain ⟨rfl, h4, h5⟩ := hn
  exact ⟨rfl, ⟨⟨A, (StoreL c b mb).keep h1 h5 (fun _ _ h => h), h2, fun e => by have := (StoreL c b mb).lt h1 _ e; omega⟩, h4, h3.size, h3.trans h5 (fun _ _ h => h)⟩⟩
theorem RW.turn {A : Nat → Prop} (hA : ∀ k, A k → w.heap.size ≤ k) (nA : ¬ A r) (hr : ReadAt wr r b s) (hge : w.heap.size ≤ r) (hown : Keep Nil w wr) (h : RTo wr A c b mb ws log' r s' w') : RW w w' c b mb ws log' r s' := by
  obtain ⟨A', h1, h2, h3, h4⟩ := h
  have hz := lt_of_block hr
  exact ⟨⟨A', h1, fun k e => (h4 k e).elim (hA k) (fun e => by have := hown.size; omega), fun e => (h4 r e).elim nA (fun e => by omega)⟩, h2, hge, hown.trans h3 (fun k hlt e => by rcases e with e | e; exact absurd (hA k e) (by omega); omega)⟩
theorem RW.mem {A : Nat → Prop} (hA : ∀ k, A k → w.heap.size ≤ k) (nA : ¬ A r) (hr : ReadAt wr r b s) (hge : w.heap.size ≤ r) (hown : Keep Nil w wr) (h : (StoreL c b mb).To wr A (ws', log') w') : RW w w' c b mb ws' log' r s := by
  obtain ⟨A', h1, h2, h3⟩ := h
  have hz := lt_of_block hr
  exact ⟨⟨A', h1, fun k e => (h3 k e).elim (hA k) (fun e => by have := hown.size; omega), fun e => (h3 r e).elim nA (fun e => by omega)⟩, hr.keep h2 nA, hge, hown.trans h2 (fun k hlt e => absurd (hA k e) (by omega))⟩
end
end Go.Proofs.YtmafdjhjmnghcaaGreat
