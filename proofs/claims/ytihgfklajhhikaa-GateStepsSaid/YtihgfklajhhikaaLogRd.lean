/- Log from the first access on, whether or not there are any. -/
import Derived.Test.YtihgfklajhhikaaMemRead
namespace Go.Proofs.Ytihgfklajhhikaa
open Go.RowKit Go.Lf

/-- What Log(0) returns: a slice that reads as the log; if it is not empty, new memory. -/
def LogTo (w : World) (log : List Acc) (e : Ending) (w' : World) : Prop :=
  ∃ la lc, e = .returned (.slice la log.length lc) ∧ Rd w' 6 (.slice la log.length lc) log.length (logCells log) ∧ Keep Nil w w' ∧
    (0 < log.length → ∃ g, la = some ⟨g, 0, none⟩ ∧ w.heap.size ≤ g ∧ w'.heap[g]? = some (.cells (logCells log).toArray 190 (0, 0)))

theorem log_all {b : Nat} {F : Nat → Prop} {ws : List Int} {log : List Acc} {w : World} (h : MemAt w b F ws log) (hn : log.length < 1000000000000) :
    Calls Try.prog 47 #[.pointer (some ⟨b, 0, none⟩), .int .i64 0] w (LogTo w log) := by
  by_cases h0 : log.length = 0
  · refine (log_none h 0 (.inr (by omega))).mono ?_
    rintro e w' ⟨rfl, rfl⟩
    obtain rfl : log = [] := List.eq_nil_of_length_eq_zero h0
    exact ⟨none, 0, rfl, ⟨none, 0, rfl, rfl, .inl ⟨rfl, rfl, rfl⟩⟩, Keep.refl _ _, fun h => absurd h (by simp)⟩
  · refine (log_ok h 0 (Int.le_refl _) (by omega) hn).mono ?_
    rintro e w' ⟨g, rfl, hg, hz, hk⟩
    simp only [Int.toNat_zero, List.drop_zero] at hg
    exact ⟨some ⟨g, 0, none⟩, log.length, rfl, by simpa using rd_of_heap (size := 6) (n := log.length) hg (length_logCells _), hk, fun _ => ⟨g, rfl, hz, hg⟩⟩
end Go.Proofs.Ytihgfklajhhikaa
