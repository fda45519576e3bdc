/- make in a region that draws its order. -/
import Derived.Test.YtckopbjejjeknaaBase
namespace Go.Lf
open Go.RowKit
section
variable {P : Program} {w : World}
theorem step_mk {ops : Array Oper} {o : Oper} {a : Act} {K : Act → World → Prop} {Q : Exit → Act → World → Prop} {E : Prop} (hgd : o.guard = none) (l c : Operand) (t : TypeId) (hop : o.op = Op.makeSlice t l c)
    (e : TypeId) (z : Value) (size bytes : Nat) (ht : P.underlying t = some (.slice e)) (hinfo : (P.info? e).map (fun i => (i.zero, i.size, i.bytes)) = some (some z, size, bytes))
    (kl kc : IntKind) (L : Int) (hl : a.eval l = .int kl L) (hc : a.eval c = .int kc L) (h0 : 0 ≤ L) (hb : (bytes : Int) * L ≤ 281474976710656) (h63 : L ≤ 9223372036854775807)
    (hK : ∀ w1, w1.heap[w.heap.size]? = some (.cells (madeCells z.cells (L.toNat * size)) e (0, 0)) → Keep Nil w w1 → w1.heap.size = w.heap.size + 1 → K (a.put o.dst (.slice (some ⟨w.heap.size, 0, none⟩) L.toNat L.toNat)) w1) :
    if Region.wanted o (yielded ops a.tmps) = true then Oper.wp P o a w K Q else E := by
  have hw : Region.wanted o (yielded ops a.tmps) = true := by simp [Region.wanted, hgd]
  rw [if_pos hw]
  obtain ⟨i, hi, hz, hsize, hby⟩ := info_parts hinfo
  subst hsize
  subst hby
  have hr := run_make (P := P) w t e i z ht hi hz kl kc L L h0 (Int.le_refl _) hb h63
  unfold Oper.wp
  simp [execOp, hop, hl, hc, hr, Result.andThen]
  exact hK _ (heap_alloc_new w _) (Keep.alloc (Keep.refl _ _) _) (by simp)
end
end Go.Lf
