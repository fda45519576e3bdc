/- Maps from small numbers to functions, made by a literal and asked. No program is named here. -/
import Derived.Test.YtldjlcdccnnogaaGreatBase
import Derived.MapKept
set_option linter.unusedVariables false
set_option linter.unusedSimpArgs false
namespace Go.Lf
open Go.RowKit
/-- A map's block, entry by entry. -/
def MapAt (w : World) (r : Nat) (es : List MapEntry) : Prop := ∃ clock, w.heap[r]? = some (.map es.toArray clock)
theorem MapAt.keep {w w' : World} {r : Nat} {es : List MapEntry} {S : Nat → Prop} (h : MapAt w r es) (hk : Keep S w w') (hn : ¬ S r) : MapAt w' r es := by
  obtain ⟨c, h⟩ := h; exact ⟨c, hk.at h hn⟩
theorem MapAt.lt {w : World} {r : Nat} {es : List MapEntry} (h : MapAt w r es) : r < w.heap.size := by
  obtain ⟨c, h⟩ := h; exact lt_of_block h
theorem MapAt.new (w : World) : MapAt (w.alloc (.map #[] 0)) w.heap.size [] := ⟨0, heap_alloc_new w _⟩
section
variable {P : Program} {w : World} {t kt et : TypeId} {r clock : Nat} {es : List MapEntry}
theorem run_fput {kd : IntKind} (hm : P.underlying t = some (.map kt et)) (hk : P.underlying kt = some (.int kd)) (hb : w.heap[r]? = some (.map es.toArray clock)) (k : Int) (v : Value) (hn : Instr.findNow (.int kd) (.int kd k) es 0 = some none) :
    (Instr.mapUpdate t (.map (some r)) (.int kd k) v).run P w = .ok () { w with heap := w.heap.setIfInBounds r (.map (es ++ [(⟨.int kd k, v, clock⟩ : MapEntry)]).toArray (clock + 1)) } := by
  have hc : (Instr.checkKey false 10000 kt (.int kd k)).run P w = .ok () w := MapKept.run_checkKey (k := .int kd k) hk (by simp [MapKept.IsKey]) false 9999
  simp [Instr.mapUpdate, run_underlying hm, MapKept.run_getObj_map hb, hc, MapKept.run_findKey hk hn, MapKept.run_setObj_map _ hb, Result.andThen]
theorem keep_setMap {S : Nat → Prop} (hs : S r) (o : Obj) : Keep S w { w with heap := w.heap.setIfInBounds r o } :=
  ⟨rfl, rfl, rfl, by simp, fun k hk hn => by
    have : r ≠ k := fun e => hn (e ▸ hs)
    simp [this]⟩
theorem run_fget {kd : IntKind} (hm : P.underlying t = some (.map kt et)) (hk : P.underlying kt = some (.int kd)) (h : MapAt w r es) (k : Int) {v : Value} {i : Nat} (hn : Instr.findNow (.int kd) (.int kd k) es 0 = some (some (i, v))) :
    (Instr.lookup t (.map (some r)) (.int kd k) false).run P w = .ok v w := by
  obtain ⟨clock, hb⟩ := h
  have hc : ∀ b, (Instr.checkKey b 10000 kt (.int kd k)).run P w = .ok () w := fun b => MapKept.run_checkKey (k := .int kd k) hk (by simp [MapKept.IsKey]) b 9999
  simp [Instr.lookup, run_underlying hm, MapKept.run_getObj_map hb, hc, MapKept.run_findKey hk hn, Result.andThen]
/-- A map's literal: an entry more. -/
theorem wpList_ins {kd : IntKind} {ops : Array Oper} {rest : List Oper} {o : Oper} {a : Act} {Q : Exit → Act → World → Prop} (hg : o.guard = none) (m x v : Operand) (t : TypeId) (hop : o.op = .insert t m x v)
    (hm : P.underlying t = some (.map kt et)) (hk : P.underlying kt = some (.int kd)) (r : Nat) (hr : a.eval m = .map (some r)) (es : List MapEntry) (h : MapAt w r es) (k : Int) (hx : a.eval x = .int kd k) (val : Value) (hv : a.eval v = val) (hn : Instr.findNow (.int kd) (.int kd k) es 0 = some none)
    (hK : ∀ w' c, MapAt w' r (es ++ [(⟨.int kd k, val, c⟩ : MapEntry)]) → Keep (fun k => k = r) w w' → w'.heap.size = w.heap.size → wpList P ops Q rest (a.put o.dst undef) w') : wpList P ops Q (o :: rest) a w := by
  obtain ⟨clock, hb⟩ := h
  refine wpList_plain hg fun K' hK' => ?_
  have hrun := run_fput hm hk hb k val hn
  unfold Oper.wp
  simp only [execOp, hop, hr, hx, hv]
  have hlt := lt_of_block hb
  simp [hrun, Result.andThen]
  exact hK' _ _ (hK _ clock ⟨clock + 1, by simp [hlt]⟩ (keep_setMap (S := fun k => k = r) rfl _) (by simp))
end
end Go.Lf
