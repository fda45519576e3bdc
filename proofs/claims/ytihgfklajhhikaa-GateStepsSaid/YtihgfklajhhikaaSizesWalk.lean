
/- WordsSizes: the walk. -/
import Derived.Test.YtihgfklajhhikaaRefNew
namespace Go.Proofs.Ytihgfklajhhikaa
open Go.RowKit Go.Lf

theorem zeros_rd {w : World} {g n : Nat} (h : w.heap[g]? = some (.cells (madeCells #[.int .u64 0] n) 49 (0, 0))) : Rd w 1 (.slice (some ⟨g, 0, none⟩) n n) (List.replicate n (0 : Int)).length (u64s (List.replicate n 0)) := by
  rw [made_one] at h
  have h2 : u64s (List.replicate n 0) = List.replicate n (.int .u64 0) := by simp [u64s]
  rw [h2]
  simpa using rd_of_heap (size := 1) (n := n) h (by simp)

end Go.Proofs.Ytihgfklajhhikaa
