/- A store that the walk has made: its memory and its layout. -/
import Derived.Test.YtmafdjhjmnghcaaGreatStoreEx
set_option linter.unusedVariables false
set_option linter.unusedSimpArgs false
namespace Go.Proofs.YtmafdjhjmnghcaaGreat
open Go.RowKit Go.Lf
section
variable {w wr : World} {c : Cfg} {b mb : Nat} {ws : List Int} {log : List Acc} {t slot : Int}
theorem sw_store (h : SW w wr c b mb ws log) (a x v : Int) (t0 : 0 ≤ t) (t1 : t < 64) (a0 : 0 ≤ a) (hx : ws[a.toNat]? = some x) (hlog : log.length < 1000000000000) : Calls Tryz.prog 25 #[.pointer (some ⟨mb, 0, none⟩), .int .i64 t, .int .i64 a, .int .u64 v] wr fun e w' => e = .returned (.int .i64 0) ∧ SW w w' c b mb (ws.set a.toNat v) (log ++ [⟨t, a, 2, x, v, false⟩]) := by
  obtain ⟨⟨A, ⟨L, F, G, hsp⟩, hA⟩, hown⟩ := h
  refine (store_ok hsp.mem t a x v t0 t1 a0 hx hlog).mono ?_
  rintro e w' ⟨rfl, hto⟩
  exact ⟨rfl, SW.turn hown hA (hsp.turn (Keep.refl Nil wr) hto)⟩
theorem sw_mem (h : SW w wr c b mb ws log) : Calls Tryz.prog 24 #[.pointer (some ⟨b, 0, none⟩)] wr fun e w' => e = .returned (.pointer (some ⟨mb, 0, none⟩)) ∧ wr = w' := by
  obtain ⟨⟨A, ⟨L, F, G, hsp⟩, hA⟩, hown⟩ := h
  exact bmem_ok hsp
/-- The layout of a store. -/
def LayTo (w : World) (c : Cfg) (e : Ending) (w' : World) : Prop := ∃ L, e = .returned (.pointer (some ⟨L, 0, none⟩)) ∧ LayAt w L c ∧ w = w'
theorem sw_layout (h : SW w wr c b mb ws log) : Calls Tryz.prog 22 #[.pointer (some ⟨b, 0, none⟩)] wr (LayTo wr c) := by
  obtain ⟨⟨A, ⟨L, F, G, hsp⟩, hA⟩, hown⟩ := h
  refine (blayout_ok hsp).mono ?_
  rintro e w' ⟨rfl, rfl⟩
  exact ⟨L, rfl, hsp.lay.at_, rfl⟩
end
end Go.Proofs.YtmafdjhjmnghcaaGreat
