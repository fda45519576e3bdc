/- A slice against nil: runs of the operations, over any program. -/
import Derived.WalkKit
import Derived.Laws.EntriesVeiled
namespace Go.Lf
open Go.RowKit
section
variable {P : Program} (w : World)
theorem run_eqs_some (d : Nat) {t e : TypeId} (h : P.underlying t = some (.slice e)) (ad : Addr) (n c : Nat) : (Op.equalIn (d + 1) t (.slice (some ad) n c) (.slice none 0 0)).run P w = .ok false w := by
  simp [Op.equalIn, run_underlying h]
theorem run_eqs_none (d : Nat) {t e : TypeId} (h : P.underlying t = some (.slice e)) (n c : Nat) : (Op.equalIn (d + 1) t (.slice none n c) (.slice none 0 0)).run P w = .ok true w := by
  simp [Op.equalIn, run_underlying h]
theorem run_eql_some {t e : TypeId} (h : P.underlying t = some (.slice e)) (ad : Addr) (n c : Nat) : (binOp .eql t (.slice (some ad) n c) (.slice none 0 0)).run P w = .ok (.bool false) w := by
  simp only [binOp]
  simp [Op.equal, Op.maxDepth, run_eqs_some w 9999 h]
theorem run_eql_none {t e : TypeId} (h : P.underlying t = some (.slice e)) (n c : Nat) : (binOp .eql t (.slice none n c) (.slice none 0 0)).run P w = .ok (.bool true) w := by
  simp only [binOp]
  simp [Op.equal, Op.maxDepth, run_eqs_none w 9999 h]
end
end Go.Lf
