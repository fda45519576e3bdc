/- leapfrogref16.Fits: contracts. -/
import Derived.Test.YtjghenomeindcaaGreatRefNew
namespace Go.Proofs.YtjghenomeindcaaGreat
open Go.RowKit Go.Lf
section
variable {w : World} {mb : Nat} {F : Nat → Prop} {ws : List Int} {log : List Acc}
theorem rf_len (h : RefAt w mb F ws log) : ∃ gw wc, w.cell? ⟨mb, 0, none⟩ = some (.slice (some ⟨gw, 0, none⟩) ws.length wc) := by
  obtain ⟨gw, wc, la, lc, hr, -⟩ := h.rep
  exact ⟨gw, wc, hr.cell0⟩
set_option maxHeartbeats 400000 in
theorem fits_no (h : RefAt w mb F ws log) (base n : Int) (n0 : 1 ≤ n) (n1 : n ≤ 100000) (hm : ws.length ≤ 100000) (hb : base < 0 ∨ (ws.length : Int) < base + n) :
    Calls Tryz.prog 180 #[.pointer (some ⟨mb, 0, none⟩), .int .i64 base, .int .i64 n] w fun e w' => e = .returned (.bool false) ∧ w = w' := by
  obtain ⟨gw, wc, c0⟩ := rf_len h
  clear h
  by_cases h1 : 0 ≤ base
  · by_cases h2 : n ≤ (ws.length : Int)
    · have d3 : decide (base ≤ (ws.length : Int) - n) = false := decide_eq_false (by omega)
      have d1 : decide (0 ≤ base) = true := decide_eq_true h1
      have d2 : decide (n ≤ (ws.length : Int)) = true := decide_eq_true h2
      clear hb h1 h2
      go_enter Tryz.func180, Tryz.ntmps180
      go_wp2
      go_ret
      exact ⟨rfl, rfl⟩
    · have d1 : decide (0 ≤ base) = true := decide_eq_true h1
      have d2 : decide (n ≤ (ws.length : Int)) = false := decide_eq_false h2
      clear hb h1 h2
      go_enter Tryz.func180, Tryz.ntmps180
      go_wp2
      go_ret
      exact ⟨rfl, rfl⟩
  · have d1 : decide (0 ≤ base) = false := decide_eq_false h1
    clear hb h1
    go_enter Tryz.func180, Tryz.ntmps180
    go_wp2
    go_ret
    exact ⟨rfl, rfl⟩
set_option maxHeartbeats 400000 in
theorem fits_ok (h : RefAt w mb F ws log) (base n : Int) (n0 : 1 ≤ n) (hm : ws.length ≤ 100000) (b0 : 0 ≤ base) (hb : base + n ≤ (ws.length : Int)) :
    Calls Tryz.prog 180 #[.pointer (some ⟨mb, 0, none⟩), .int .i64 base, .int .i64 n] w fun e w' => e = .returned (.bool true) ∧ w = w' := by
  obtain ⟨gw, wc, c0⟩ := rf_len h
  clear h
  have d3 : decide (base ≤ (ws.length : Int) - n) = true := decide_eq_true (by omega)
  have d1 : decide (0 ≤ base) = true := decide_eq_true (by omega)
  have d2 : decide (n ≤ (ws.length : Int)) = true := decide_eq_true (by omega)
  go_enter Tryz.func180, Tryz.ntmps180
  go_wp2
  go_ret
  exact ⟨rfl, rfl⟩

end
end Go.Proofs.YtjghenomeindcaaGreat
