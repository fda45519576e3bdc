
/- What the methods of atomic.Uint64 do to a cell that holds a number. -/
import Derived.Test.YtjghenomeindcaaGreatProg
import Derived.Test.YtjghenomeindcaaGreatBase
namespace Go.Proofs.YtjghenomeindcaaGreat
open Go.RowKit Go.Lf

section
variable {P : Program} {f : FuncId} {fn : Func}
/-- sync/atomic.SwapT: the number is stored, the old one handed back. -/
theorem run_call_swap (hf : P.funcs[f]? = some fn) (hname : (fn.name == "runtime.NumGoroutine") = false) (hb : fn.body.isNone = true) (hn : Extern.findNext fn = none) (k : IntKind)
    (he : Extern.find fn = some (Extern.Atomic.swapT (.int k))) {a : Addr} {x y : Int} {w : World} (hc : w.cell? a = some (.int k x)) (hz : w.frozen? a = false) :
    (callFunc f #[.pointer (some a), .int k y]).run P w = .ok (.value (.int k x)) (w.setCell a (.int k y)) := by
  rw [run_callFunc_extern hf hname hb hn he]
  change (Sem.run P (do
    let a' ← asAddr (.pointer (some a))
    let old ← Extern.Atomic.read (.int k) a'
    store a' (.int k y) .atomic
    pure old) w).andThen _ = _
  simp [Extern.Atomic.read, asAddr, hc, hz, run_store P w a (.int k y) .atomic rfl, Result.andThen]
end

set_option maxHeartbeats 400000 in
theorem aload_any (b i : Nat) (x : Int) (w : World) (hc : w.cell? ⟨b, i, none⟩ = some (.int .u64 x)) :
    Calls Tryz.prog 115 #[.pointer (some ⟨b, i, none⟩)] w fun e w' => e = .returned (.int .u64 x) ∧ w = w' := by
  have hx := run_call_load (P := Tryz.prog) Tryz.func145 (by kernel_rfl) (by kernel_rfl) (by kernel_rfl) .u64 (by kernel_rfl) hc
  go_enter Tryz.func115, Tryz.ntmps115
  go_wp2
  go_ret
  exact ⟨rfl, rfl⟩
set_option maxHeartbeats 400000 in
theorem astore_any (b i : Nat) (x y : Int) (w : World) (hc : w.cell? ⟨b, i, none⟩ = some (.int .u64 x)) (hf : w.frozen? ⟨b, i, none⟩ = false) :
    Calls Tryz.prog 77 #[.pointer (some ⟨b, i, none⟩), .int .u64 y] w fun e w' => e = .returned (.tuple #[]) ∧ w.setCell ⟨b, i, none⟩ (.int .u64 y) = w' := by
  have hx := run_call_store (P := Tryz.prog) Tryz.func126 (by kernel_rfl) (by kernel_rfl) (by kernel_rfl) (by kernel_rfl) (k := .u64) (y := y) hc hf
  go_enter Tryz.func77, Tryz.ntmps77
  go_wp2
  go_end0
  exact ⟨rfl, rfl⟩
set_option maxHeartbeats 400000 in
theorem aswap_any (b i : Nat) (x y : Int) (w : World) (hc : w.cell? ⟨b, i, none⟩ = some (.int .u64 x)) (hf : w.frozen? ⟨b, i, none⟩ = false) :
    Calls Tryz.prog 65 #[.pointer (some ⟨b, i, none⟩), .int .u64 y] w fun e w' => e = .returned (.int .u64 x) ∧ w.setCell ⟨b, i, none⟩ (.int .u64 y) = w' := by
  have hx := run_call_swap (P := Tryz.prog) Tryz.func121 (by kernel_rfl) (by kernel_rfl) (by kernel_rfl) .u64 (by kernel_rfl) (y := y) hc hf
  go_enter Tryz.func65, Tryz.ntmps65
  go_wp2
  go_ret
  exact ⟨rfl, rfl⟩
set_option maxHeartbeats 400000 in
theorem acas_yes (b i : Nat) (x y : Int) (w : World) (hc : w.cell? ⟨b, i, none⟩ = some (.int .u64 x)) (hf : w.frozen? ⟨b, i, none⟩ = false) :
    Calls Tryz.prog 116 #[.pointer (some ⟨b, i, none⟩), .int .u64 x, .int .u64 y] w fun e w' => e = .returned (.bool true) ∧ w.setCell ⟨b, i, none⟩ (.int .u64 y) = w' := by
  have hx := run_call_cas_hit (P := Tryz.prog) Tryz.func146 (by kernel_rfl) (by kernel_rfl) (by kernel_rfl) .u64 (by kernel_rfl) (y := y) hc hf
  go_enter Tryz.func116, Tryz.ntmps116
  go_wp2
  go_ret
  exact ⟨rfl, rfl⟩
set_option maxHeartbeats 400000 in
theorem acas_no (b i : Nat) (x o y : Int) (w : World) (hc : w.cell? ⟨b, i, none⟩ = some (.int .u64 x)) (hf : w.frozen? ⟨b, i, none⟩ = false) (hne : (x == o) = false) :
    Calls Tryz.prog 116 #[.pointer (some ⟨b, i, none⟩), .int .u64 o, .int .u64 y] w fun e w' => e = .returned (.bool false) ∧ w = w' := by
  have hx := run_call_cas_miss (P := Tryz.prog) Tryz.func146 (by kernel_rfl) (by kernel_rfl) (by kernel_rfl) .u64 (by kernel_rfl) (o := o) (y := y) hc hf (by simpa using hne)
  go_enter Tryz.func116, Tryz.ntmps116
  go_wp2
  go_ret
  exact ⟨rfl, rfl⟩
end Go.Proofs.YtjghenomeindcaaGreat
