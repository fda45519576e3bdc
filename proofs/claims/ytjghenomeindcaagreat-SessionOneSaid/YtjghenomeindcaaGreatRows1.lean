/- Rows of numbers and Booleans: zero values, make. -/
import Derived.Test.YtjghenomeindcaaGreatMemRead
namespace Go.Proofs.YtjghenomeindcaaGreat
open Go.RowKit Go.Lf
theorem infoBool : (Tryz.prog.info? 4).map (fun i => (i.zero, i.size, i.bytes)) = some (some (.bool false), 1, 1) := by kernel_rfl
theorem infoInt : (Tryz.prog.info? 3).map (fun i => (i.zero, i.size, i.bytes)) = some (some (.int .i64 0), 1, 8) := by kernel_rfl

theorem make_u64 (n : Nat) (hn : n ≤ 1000000) (w : World) : (Instr.makeSlice 37 (.int .i64 n) (.int .i64 n)).run Tryz.prog w = .ok (.slice (some ⟨w.heap.size, 0, none⟩) n n) (w.alloc (.cells (List.replicate n (Value.int .u64 0)).toArray 54)) := by
  obtain ⟨i, hi, hz, hsize, hby⟩ := info_parts infoU64
  have := run_make (P := Tryz.prog) w 37 54 i (.int .u64 0) Tryz.underlying37 hi hz .i64 .i64 n n (by omega) (Int.le_refl _) (by rw [hby]; omega) (by omega)
  rw [this, hsize, ← made_one]
  simp [Value.cells]
theorem make_bool (n : Nat) (hn : n ≤ 1000000) (w : World) : (Instr.makeSlice 181 (.int .i64 n) (.int .i64 n)).run Tryz.prog w = .ok (.slice (some ⟨w.heap.size, 0, none⟩) n n) (w.alloc (.cells (List.replicate n (Value.bool false)).toArray 4)) := by
  obtain ⟨i, hi, hz, hsize, hby⟩ := info_parts infoBool
  have := run_make (P := Tryz.prog) w 181 4 i (.bool false) Tryz.underlying181 hi hz .i64 .i64 n n (by omega) (Int.le_refl _) (by rw [hby]; omega) (by omega)
  rw [this, hsize, ← made_one]
  simp [Value.cells]

theorem int_row1 (zs : List Int) (u : Int) : (zs ++ [u]).map (Value.int .i64) = zs.map (Value.int .i64) ++ [.int .i64 u] := by simp

end Go.Proofs.YtjghenomeindcaaGreat
