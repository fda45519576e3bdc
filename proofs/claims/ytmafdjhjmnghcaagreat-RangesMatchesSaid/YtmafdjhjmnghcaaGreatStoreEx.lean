/- The store of the examples. -/
import Derived.Test.YtmafdjhjmnghcaaGreatStoreNew
set_option linter.unusedVariables false
set_option linter.unusedSimpArgs false
namespace Go.Lf
/-- The configuration of the examples. -/
def exC : Cfg := ⟨2, 2, 2, 0, ⟨2, 2, []⟩, [4, 2, 0, 0, 0, 0], 2, 5, 0⟩
theorem exC_ok : exC.ok := ⟨by decide, by decide, by decide, by decide, .inr (.inl rfl), fun h => absurd h (by decide), fun _ => rfl, .inr (.inl ⟨rfl, ⟨by decide, by decide⟩, rfl⟩), rfl, by decide, by decide, by decide, by decide, by decide, by decide, by decide⟩
end Go.Lf
namespace Go.Proofs.YtmafdjhjmnghcaaGreat
open Go.RowKit Go.Lf
section
variable {w : World}
set_option maxRecDepth 100000 in
set_option maxHeartbeats 4000000 in
theorem example_ok : Calls Tryz.prog 19 #[] w fun e w' => e = .returned (cfgV exC 4 2 0 0 0 0 none 0) ∧ Keep Nil w w' := by
  go_enter Tryz.func19, Tryz.ntmps19
  go_wp2
  refine bodyPost_ret (results_cell_row rfl _ _ w.heap.size _ _ (0, 0) _ rfl (heap_alloc_new w _) Tryz.underlying45 rfl infoCfg) rfl ⟨rfl, (Keep.refl Nil w).alloc _⟩
/-- A store that the walk has made. -/
structure SW (w wr : World) (c : Cfg) (b mb : Nat) (ws : List Int) (log : List Acc) : Prop where
  ex : ∃ A, (StoreL c b mb).lie wr A (ws, log) ∧ ∀ k, A k → w.heap.size ≤ k
  own : Keep Nil w wr
theorem SW.turn {wr w' : World} {c : Cfg} {b mb : Nat} {ws' : List Int} {log' : List Acc} {A : Nat → Prop} (hk : Keep Nil w wr) (hA : ∀ k, A k → w.heap.size ≤ k) (h : (StoreL c b mb).To wr A (ws', log') w') : SW w w' c b mb ws' log' := by
  obtain ⟨A2, h1, h2, h3⟩ := h
  exact ⟨⟨A2, h1, fun k e => (h3 k e).elim (hA k) (fun e => by have := hk.size; omega)⟩, hk.trans h2 (fun k hlt e => by have := hA k e; omega)⟩
theorem SW.quiet {wr w' : World} {c : Cfg} {b mb : Nat} {ws : List Int} {log : List Acc} (h : SW w wr c b mb ws log) (hk : Keep Nil wr w') : SW w w' c b mb ws log := by
  obtain ⟨⟨A, h1, h2⟩, h3⟩ := h
  exact ⟨⟨A, (StoreL c b mb).keep h1 hk (fun _ _ h => h), h2⟩, h3.trans hk (fun _ _ h => h)⟩
theorem SW.new {wr w' : World} {c : Cfg} {e : Ending} (hk : Keep Nil w wr) (h : BNewTo wr c e w') : ∃ b mb, e = .returned (.tuple #[.pointer (some ⟨b, 0, none⟩), .int .i64 0]) ∧ SW w w' c b mb (ints c.init) [] := by
  obtain ⟨b, mb, A, rfl, h1, h2, h3⟩ := h
  exact ⟨b, mb, rfl, ⟨⟨A, h1, fun k e => by have := h3 k e; have := hk.size; omega⟩, hk.trans h2 (fun _ _ h => h)⟩⟩
theorem exnew_ok : Calls Tryz.prog 18 #[cfgV exC 4 2 0 0 0 0 none 0] w (BNewTo w exC) :=
  bnew_ok exC exC_ok 4 2 0 0 0 0 rfl none 0 ⟨_, _, rfl, by simp [exC, u64s], .inl ⟨rfl, rfl, rfl⟩⟩
end
end Go.Proofs.YtmafdjhjmnghcaaGreat
