/- read: New, Next, Result and the parts of a step. -/
import Derived.Test.YtmafdjhjmnghcaaGreatField
import Derived.Test.YtmafdjhjmnghcaaGreatFieldP
import Derived.Test.YtmafdjhjmnghcaaGreatLayWord
import Derived.Test.YtmafdjhjmnghcaaGreatStore
import Derived.StillTailTactics
set_option linter.unusedVariables false
set_option linter.unusedSimpArgs false
namespace Go.Proofs.YtmafdjhjmnghcaaGreat
open Go.RowKit Go.Lf
attribute [local go_sem] fld0 fld1 fld2 fld3 fld4 fld5 fld6 fld7 fld8 fld9 fldc fldl
theorem results_tmp4 {fn : Func} {t u v x : Tmp} (h : fn.results = #[.tmp t, .tmp u, .tmp v, .tmp x]) (tmps : Array Value) (P : Program) (w : World) :
    (results fn tmps).run P w = .ok (.tuple #[tmps.getD t undef, tmps.getD u undef, tmps.getD v undef, tmps.getD x undef]) w := by
  simp [results, h]
def ReadAt (w : World) (r b : Nat) (s : RS) : Prop :=
  w.heap[r]? = some (.cells #[.pointer (some ⟨b, 0, none⟩), .int .i64 s.th, .int .i64 s.tower, .int .i64 s.tries, .int .i64 s.fails, .int .u64 s.state, .int .u64 s.value, .bool s.present, .bool s.ended, .int .u8 s.next, .int .i64 s.err] 173 (0, 0))
theorem ReadAt.keep {w w' : World} {r b : Nat} {s : RS} {S : Nat → Prop} (h : ReadAt w r b s) (hk : Keep S w w') (hn : ¬ S r) : ReadAt w' r b s := hk.at h hn
def RdNewTo (w : World) (b : Nat) (s : RS) (e : Ending) (w' : World) : Prop :=
  e = .returned (.tuple #[.pointer (some ⟨w.heap.size, 0, none⟩), .int .i64 0]) ∧ ReadAt w' w.heap.size b s ∧ Keep Nil w w'
section
variable {w : World} {A : Nat → Prop} {c : Cfg} {b mb L r : Nat} {F G : Nat → Prop} {ws : List Int} {log : List Acc} {s : RS}
theorem rnext_nil : Calls Tryz.prog 36 #[.pointer none] w fun e w' => e = .returned (.int .u8 0) ∧ w = w' := by
  go_enter Tryz.func36, Tryz.ntmps36
  go_wp2
  go_ret
  exact ⟨rfl, rfl⟩
set_option maxHeartbeats 2000000 in
theorem rnext_ok (h : ReadAt w r b s) : Calls Tryz.prog 36 #[.pointer (some ⟨r, 0, none⟩)] w fun e w' => e = .returned (.int .u8 s.next) ∧ w = w' := by
  have c9 : w.cell? ⟨r, 9, none⟩ = some (.int .u8 s.next) := by rw [cell_of h]; rfl
  clear h
  go_enter Tryz.func36, Tryz.ntmps36
  go_wp2
  go_ret
  exact ⟨rfl, rfl⟩
theorem rres_nil : Calls Tryz.prog 35 #[.pointer none] w fun e w' => e = .returned (.tuple #[.int .u64 0, .bool false, .int .i64 0, .int .i64 1]) ∧ w = w' := by
  go_enter Tryz.func35, Tryz.ntmps35
  go_wp2
  (try simp only [Exit.inBlock, Exit.then])
  refine bodyPost_ret (results_tmp4 rfl _ _ _) rfl ?_
  exact ⟨rfl, rfl⟩
set_option maxHeartbeats 2000000 in
theorem rres_state (h : ReadAt w r b s) (he : s.ended = false) : Calls Tryz.prog 35 #[.pointer (some ⟨r, 0, none⟩)] w fun e w' => e = .returned (.tuple #[.int .u64 0, .bool false, .int .i64 0, .int .i64 8]) ∧ w = w' := by
  have c8 : w.cell? ⟨r, 8, none⟩ = some (.bool false) := by rw [cell_of h, he]; rfl
  clear h
  go_enter Tryz.func35, Tryz.ntmps35
  go_wp2
  (try simp only [Exit.inBlock, Exit.then])
  refine bodyPost_ret (results_tmp4 rfl _ _ _) rfl ?_
  exact ⟨rfl, rfl⟩
set_option maxHeartbeats 2000000 in
theorem rres_ok (h : ReadAt w r b s) (he : s.ended = true) : Calls Tryz.prog 35 #[.pointer (some ⟨r, 0, none⟩)] w fun e w' => e = .returned (.tuple #[.int .u64 s.value, .bool s.present, .int .i64 s.fails, .int .i64 s.err]) ∧ Keep Nil w w' := by
  have c8 : w.cell? ⟨r, 8, none⟩ = some (.bool true) := by rw [cell_of h, he]; rfl
  have c4 : w.cell? ⟨r, 4, none⟩ = some (.int .i64 s.fails) := by rw [cell_of h]; rfl
  have c6 : w.cell? ⟨r, 6, none⟩ = some (.int .u64 s.value) := by rw [cell_of h]; rfl
  have c7 : w.cell? ⟨r, 7, none⟩ = some (.bool s.present) := by rw [cell_of h]; rfl
  have c10 : w.cell? ⟨r, 10, none⟩ = some (.int .i64 s.err) := by rw [cell_of h]; rfl
  clear h he
  go_enter Tryz.func35, Tryz.ntmps35
  go_wp2
  go_quiet (fail)
  go_wp2
  (try simp only [Exit.inBlock, Exit.then])
  refine bodyPost_ret (results_tmp4 rfl _ _ _) rfl ?_
  exact ⟨rfl, (Keep.refl Nil w).drewN _⟩
theorem rdnew_nil (t tw tr : Int) : Calls Tryz.prog 33 #[.pointer none, .int .i64 t, .int .i64 tw, .int .i64 tr] w fun e w' => e = .returned (.tuple #[.pointer none, .int .i64 1]) ∧ w = w' := by
  go_enter Tryz.func33, Tryz.ntmps33
  go_wp2
  go_ret2
  exact ⟨rfl, rfl⟩
set_option maxHeartbeats 4000000 in
theorem rdnew_arg (t tw tr : Int) (h : t < 0 ∨ 64 ≤ t ∨ tr < 0 ∨ 255 < tr) : Calls Tryz.prog 33 #[.pointer (some ⟨b, 0, none⟩), .int .i64 t, .int .i64 tw, .int .i64 tr] w fun e w' => e = .returned (.tuple #[.pointer none, .int .i64 2]) ∧ w = w' := by
  by_cases h1 : t < 0
  · have d1 : decide (t < 0) = true := decide_eq_true h1
    clear h h1
    go_enter Tryz.func33, Tryz.ntmps33
    go_wp2
    go_ret2
    exact ⟨rfl, rfl⟩
  have d1 : decide (t < 0) = false := decide_eq_false h1
  by_cases h2 : 64 ≤ t
  · have d2 : decide (64 ≤ t) = true := decide_eq_true h2
    clear h h1 h2
    go_enter Tryz.func33, Tryz.ntmps33
    go_wp2
    go_ret2
    exact ⟨rfl, rfl⟩
  have d2 : decide (64 ≤ t) = false := decide_eq_false h2
  by_cases h3 : tr < 0
  · have d3 : decide (tr < 0) = true := decide_eq_true h3
    clear h h1 h2 h3
    go_enter Tryz.func33, Tryz.ntmps33
    go_wp2
    go_ret2
    exact ⟨rfl, rfl⟩
  have d3 : decide (tr < 0) = false := decide_eq_false h3
  have d4 : decide (255 < tr) = true := decide_eq_true (by omega)
  clear h h1 h2 h3
  go_enter Tryz.func33, Tryz.ntmps33
  go_wp2
  go_ret2
  exact ⟨rfl, rfl⟩
set_option maxHeartbeats 4000000 in
theorem rdnew_range (h : SP w A c b mb L F G ws log) (hok : c.ok) (t tw tr : Int) (t0 : 0 ≤ t) (t1 : t < 64) (r0 : 0 ≤ tr) (r1 : tr ≤ 255) (hw : tw < 1 ∨ (c.nT : Int) < tw) : Calls Tryz.prog 33 #[.pointer (some ⟨b, 0, none⟩), .int .i64 t, .int .i64 tw, .int .i64 tr] w fun e w' => e = .returned (.tuple #[.pointer none, .int .i64 3]) ∧ w = w' := by
  have H := hid h
  have hn := hok.nT
  have d1 : decide (t < 0) = false := decide_eq_false (by omega)
  have d2 : decide (64 ≤ t) = false := decide_eq_false (by omega)
  have d3 : decide (tr < 0) = false := decide_eq_false (by omega)
  have d4 : decide (255 < tr) = false := decide_eq_false (by omega)
  clear h hok t0 t1 r0 r1
  by_cases h1 : tw < 1
  · have d5 : decide (tw < 1) = true := decide_eq_true h1
    clear hw h1
    go_enter Tryz.func33, Tryz.ntmps33
    go_wp2
    go_ret2
    exact ⟨rfl, rfl⟩
  have d5 : decide (tw < 1) = false := decide_eq_false h1
  have d6 : decide ((c.nT : Int) < tw) = true := decide_eq_true (by omega)
  clear hw h1
  go_enter Tryz.func33, Tryz.ntmps33
  go_wp2_with fail
  refine (blayout_ok H.out).mono ?_
  rintro e w1 ⟨rfl, rfl⟩
  go_wp2_with fail
  refine (towers_ok H.out.lay.at_).mono ?_
  rintro e w1 ⟨rfl, rfl⟩
  go_wp2
  go_ret2
  exact ⟨rfl, rfl⟩
set_option maxHeartbeats 4000000 in
theorem rdnew_ok (h : SP w A c b mb L F G ws log) (hok : c.ok) (t tw tr : Int) (t0 : 0 ≤ t) (t1 : t < 64) (r0 : 0 ≤ tr) (r1 : tr ≤ 255) (w0 : 1 ≤ tw) (w1 : tw ≤ (c.nT : Int)) : Calls Tryz.prog 33 #[.pointer (some ⟨b, 0, none⟩), .int .i64 t, .int .i64 tw, .int .i64 tr] w (RdNewTo w b ⟨t, tw, tr, 0, 0, 0, false, false, 23, 0⟩) := by
  have H := hid h
  have hn := hok.nT
  have d1 : decide (t < 0) = false := decide_eq_false (by omega)
  have d2 : decide (64 ≤ t) = false := decide_eq_false (by omega)
  have d3 : decide (tr < 0) = false := decide_eq_false (by omega)
  have d4 : decide (255 < tr) = false := decide_eq_false (by omega)
  have d5 : decide (tw < 1) = false := decide_eq_false (by omega)
  have d6 : decide ((c.nT : Int) < tw) = false := decide_eq_false (by omega)
  clear h hok t0 t1 r0 r1 w0 w1
  go_enter Tryz.func33, Tryz.ntmps33
  go_wp2_with fail
  refine (blayout_ok H.out).mono ?_
  rintro e w1 ⟨rfl, rfl⟩
  go_wp2_with fail
  refine (towers_ok H.out.lay.at_).mono ?_
  rintro e w1 ⟨rfl, rfl⟩
  go_wp2
  go_ret2
  exact ⟨rfl, heap_alloc_new w _, (Keep.refl Nil w).alloc _⟩
end
end Go.Proofs.YtmafdjhjmnghcaaGreat
