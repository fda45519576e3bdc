/- The words of a store: their number and size; stores of the walk. -/
import Derived.Test.YtmafdjhjmnghcaaGreatInitFacts
import Derived.Test.YtmafdjhjmnghcaaGreatStoreSw
set_option linter.unusedVariables false
set_option linter.unusedSimpArgs false
namespace Go.Lf
/-- The words of a store: their number and size. -/
structure WdOk (c : Cfg) (ws : List Int) : Prop where
  len : ws.length = c.words
  wf : ∀ x ∈ ws, 0 ≤ x ∧ x < 18446744073709551616
theorem WdOk.set {c : Cfg} {ws : List Int} (h : WdOk c ws) (i : Nat) {v : Int} (h0 : 0 ≤ v) (h1 : v < 18446744073709551616) : WdOk c (ws.set i v) :=
  ⟨by rw [List.length_set]; exact h.len, set_wf h.wf ⟨h0, h1⟩ i⟩
theorem WdOk.init {c : Cfg} (h : c.ok) : WdOk c (ints c.init) := ⟨init_length c, init_wf h⟩
theorem WdOk.at {c : Cfg} {ws : List Int} (h : WdOk c ws) {k : Nat} (hk : k < c.words) : ∃ x, ws[k]? = some x ∧ 0 ≤ x ∧ x < 18446744073709551616 := by
  have hl : k < ws.length := by rw [h.len]; exact hk
  exact ⟨ws[k], List.getElem?_eq_getElem hl, h.wf _ (List.getElem_mem hl)⟩
end Go.Lf
namespace Go.Proofs.YtmafdjhjmnghcaaGreat
open Go.RowKit Go.Lf
section
variable {w wr : World} {c : Cfg} {b mb : Nat} {ws : List Int} {log : List Acc}
/-- A word is stored. -/
def PutTo (w : World) (c : Cfg) (b mb : Nat) (ws : List Int) (n : Nat) (e : Ending) (w' : World) : Prop := e = .returned (.int .i64 0) ∧ ∃ log : List Acc, log.length = n + 1 ∧ SW w w' c b mb ws log ∧ WdOk c ws
theorem sw_put (h : SW w wr c b mb ws log) (hw : WdOk c ws) (t a v : Int) (t0 : 0 ≤ t) (t1 : t < 64) (k : Nat) (ha : a = k) (hk : k < c.words) (v0 : 0 ≤ v) (v1 : v < 18446744073709551616) (hlog : log.length < 1000000000) :
    Calls Tryz.prog 25 #[.pointer (some ⟨mb, 0, none⟩), .int .i64 t, .int .i64 a, .int .u64 v] wr (PutTo w c b mb (ws.set k v) log.length) := by
  subst ha
  obtain ⟨x, hx, -, -⟩ := hw.at hk
  refine (sw_store h k x v t0 t1 (by omega) (by rw [Int.toNat_natCast]; exact hx) (by omega)).mono ?_
  rintro e w' ⟨rfl, hs⟩
  rw [Int.toNat_natCast] at hs
  exact ⟨rfl, _, by simp, hs, hw.set k v0 v1⟩
end
end Go.Proofs.YtmafdjhjmnghcaaGreat
