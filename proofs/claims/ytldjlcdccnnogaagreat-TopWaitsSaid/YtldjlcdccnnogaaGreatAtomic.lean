/- What the methods of atomic.Uint64 do to a cell that holds a number. -/
import Derived.Test.YtldjlcdccnnogaaGreatProg
import Derived.Test.YtldjlcdccnnogaaGreatBase
namespace Go.Proofs.YtldjlcdccnnogaaGreat
open Go.RowKit Go.Lf

section
variable {P : Program} {f : FuncId} {fn : Func}
/-- sync/atomic.SwapT: the number is stored, the old one handed back. -/
theorem run_call_swap (hf : P.funcs[f]? = some fn) (hname : (fn.name == "runtime.NumGoroutine") = false) (hb : fn.body.isNone = true) (hn : Extern.findNext fn = none) (k : IntKind)
    (he : Extern.find fn = some (Extern.Atomic.swapT (.int k))) {a : Addr} {x y : Int} {w : World} (hc : w.cell? a = some (.int k x)) (hz : w.frozen? a = false) :
    (callFunc f #[.pointer (some a), .int k y]).run P w = .ok (.value (.int k x)) (w.setCell a (.int k y)) := by
  rw [run_callFunc_extern hf hname hb hn he]
  change (Sem.run P (do
    let a' ← asAddr (.pointer (some a))
    let old ← Extern.Atomic.read (.int k) a'
    store a' (.int k y) .atomic
    pure old) w).andThen _ = _
  simp [Extern.Atomic.read, asAddr, hc, hz, run_store P w a (.int k y) .atomic rfl, Result.andThen]
end

set_option maxHeartbeats 400000 in
theorem aload_any (b i : Nat) (x : Int) (w : World) (hc : w.cell? ⟨b, i, none⟩ = some (.int .u64 x)) :
    Calls Tryz.prog 85 #[.pointer (some ⟨b, i, none⟩)] w fun e w' => e = .returned (.int .u64 x) ∧ w = w' := by
  have hx := run_call_load (P := Tryz.prog) Tryz.func88 (by kernel_rfl) (by kernel_rfl) (by kernel_rfl) .u64 (by kernel_rfl) hc
  go_enter Tryz.func85, Tryz.ntmps85
  go_wp2
  go_ret
  exact ⟨rfl, rfl⟩
set_option maxHeartbeats 400000 in
theorem astore_any (b i : Nat) (x y : Int) (w : World) (hc : w.cell? ⟨b, i, none⟩ = some (.int .u64 x)) (hf : w.frozen? ⟨b, i, none⟩ = false) :
    Calls Tryz.prog 56 #[.pointer (some ⟨b, i, none⟩), .int .u64 y] w fun e w' => e = .returned (.tuple #[]) ∧ w.setCell ⟨b, i, none⟩ (.int .u64 y) = w' := by
  have hx := run_call_store (P := Tryz.prog) Tryz.func77 (by kernel_rfl) (by kernel_rfl) (by kernel_rfl) (by kernel_rfl) (k := .u64) (y := y) hc hf
  go_enter Tryz.func56, Tryz.ntmps56
  go_wp2
  go_end0
  exact ⟨rfl, rfl⟩
set_option maxHeartbeats 400000 in
theorem aadd_any (b i : Nat) (x y : Int) (w : World) (hc : w.cell? ⟨b, i, none⟩ = some (.int .u64 x)) (hf : w.frozen? ⟨b, i, none⟩ = false) :
    Calls Tryz.prog 166 #[.pointer (some ⟨b, i, none⟩), .int .u64 y] w fun e w' => e = .returned (.int .u64 ((x + y) % 18446744073709551616)) ∧ w.setCell ⟨b, i, none⟩ (.int .u64 ((x + y) % 18446744073709551616)) = w' := by
  have hx := run_call_add (P := Tryz.prog) Tryz.func170 (by kernel_rfl) (by kernel_rfl) (by kernel_rfl) .u64 (by kernel_rfl) (y := y) (s := (x + y) % 18446744073709551616) hc hf (by simp [go_sem, IntKind.wrap_u64])
  go_enter Tryz.func166, Tryz.ntmps166
  go_wp2
  go_ret
  exact ⟨rfl, rfl⟩
set_option maxHeartbeats 400000 in
theorem aswap_any (b i : Nat) (x y : Int) (w : World) (hc : w.cell? ⟨b, i, none⟩ = some (.int .u64 x)) (hf : w.frozen? ⟨b, i, none⟩ = false) :
    Calls Tryz.prog 138 #[.pointer (some ⟨b, i, none⟩), .int .u64 y] w fun e w' => e = .returned (.int .u64 x) ∧ w.setCell ⟨b, i, none⟩ (.int .u64 y) = w' := by
  have hx := run_call_swap (P := Tryz.prog) Tryz.func140 (by kernel_rfl) (by kernel_rfl) (by kernel_rfl) .u64 (by kernel_rfl) (y := y) hc hf
  go_enter Tryz.func138, Tryz.ntmps138
  go_wp2
  go_ret
  exact ⟨rfl, rfl⟩
set_option maxHeartbeats 400000 in
theorem acas_yes (b i : Nat) (x y : Int) (w : World) (hc : w.cell? ⟨b, i, none⟩ = some (.int .u64 x)) (hf : w.frozen? ⟨b, i, none⟩ = false) :
    Calls Tryz.prog 179 #[.pointer (some ⟨b, i, none⟩), .int .u64 x, .int .u64 y] w fun e w' => e = .returned (.bool true) ∧ w.setCell ⟨b, i, none⟩ (.int .u64 y) = w' := by
  have hx := run_call_cas_hit (P := Tryz.prog) Tryz.func182 (by kernel_rfl) (by kernel_rfl) (by kernel_rfl) .u64 (by kernel_rfl) (y := y) hc hf
  go_enter Tryz.func179, Tryz.ntmps179
  go_wp2
  go_ret
  exact ⟨rfl, rfl⟩
set_option maxHeartbeats 400000 in
theorem acas_no (b i : Nat) (x o y : Int) (w : World) (hc : w.cell? ⟨b, i, none⟩ = some (.int .u64 x)) (hf : w.frozen? ⟨b, i, none⟩ = false) (hne : (x == o) = false) :
    Calls Tryz.prog 179 #[.pointer (some ⟨b, i, none⟩), .int .u64 o, .int .u64 y] w fun e w' => e = .returned (.bool false) ∧ w = w' := by
  have hx := run_call_cas_miss (P := Tryz.prog) Tryz.func182 (by kernel_rfl) (by kernel_rfl) (by kernel_rfl) .u64 (by kernel_rfl) (o := o) (y := y) hc hf (by simpa using hne)
  go_enter Tryz.func179, Tryz.ntmps179
  go_wp2
  go_ret
  exact ⟨rfl, rfl⟩
end Go.Proofs.YtldjlcdccnnogaaGreat
