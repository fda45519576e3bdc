
/- Rows of numbers and Booleans: zero values, make. -/
import Derived.Test.YtihgfklajhhikaaMemRead
namespace Go.Proofs.Ytihgfklajhhikaa
open Go.RowKit Go.Lf
theorem infoBool : (Try.prog.info? 4).map (fun i => (i.zero, i.size, i.bytes)) = some (some (.bool false), 1, 1) := by kernel_rfl
theorem infoInt : (Try.prog.info? 3).map (fun i => (i.zero, i.size, i.bytes)) = some (some (.int .i64 0), 1, 8) := by kernel_rfl

theorem make_u64 (n : Nat) (hn : n ≤ 1000000) (w : World) : (Instr.makeSlice 26 (.int .i64 n) (.int .i64 n)).run Try.prog w = .ok (.slice (some ⟨w.heap.size, 0, none⟩) n n) (w.alloc (.cells (List.replicate n (Value.int .u64 0)).toArray 49)) := by
  obtain ⟨i, hi, hz, hsize, hby⟩ := info_parts infoU64
  have := run_make (P := Try.prog) w 26 49 i (.int .u64 0) Try.underlying26 hi hz .i64 .i64 n n (by omega) (Int.le_refl _) (by rw [hby]; omega) (by omega)
  rw [this, hsize, ← made_one]
  simp [Value.cells]
theorem int_row1 (zs : List Int) (u : Int) : (zs ++ [u]).map (Value.int .i64) = zs.map (Value.int .i64) ++ [.int .i64 u] := by simp

end Go.Proofs.Ytihgfklajhhikaa
