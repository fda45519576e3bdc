/- layout: where a layout lies, and what its readers return. -/
import Derived.Test.YtjghenomeindcaaGreatLayOps
set_option linter.unusedVariables false
set_option linter.unusedSimpArgs false
namespace Go.Proofs.YtjghenomeindcaaGreat
open Go.RowKit Go.Lf
/-- The places of a configuration. -/
@[reducible] def plcC (c : Cfg) : Array Value := #[.int .i64 0, .int .i64 (c.engine : Int), .int .i64 (c.master : Int), .int .i64 (c.locks : Int), .int .i64 (c.descs : Int), .int .i64 (c.pools : Int), .int .i64 (c.links : Int), .int .i64 (c.heads : Int), .int .i64 (c.towers : Int), .int .i64 (c.words : Int)]
@[reducible] def layC (c : Cfg) (t1 t2 t3 t4 t5 t6 : Nat) (a : Option Addr) (cp : Nat) (p0 p1 p2 p3 p4 p5 p6 p7 p8 p9 : Int) (g h t : Value) (v : Int) : Array Value :=
  #[.int .i64 c.th, .int .i64 c.sl, .int .u8 c.eng, .int .i64 c.bk, .int .u8 c.d.k, .int .i64 c.d.n, .slice a c.d.cuts.length cp, .int .i64 t1, .int .i64 t2, .int .i64 t3, .int .i64 t4, .int .i64 t5, .int .i64 t6, .int .i64 c.lk, .int .i64 c.tr, .int .i64 c.ba,
    .int .i64 p0, .int .i64 p1, .int .i64 p2, .int .i64 p3, .int .i64 p4, .int .i64 p5, .int .i64 p6, .int .i64 p7, .int .i64 p8, .int .i64 p9, g, h, t, .int .i64 v]
structure LayAt (W : World) (L : Nat) (c : Cfg) : Prop where
  obj : ∃ (t1 t2 t3 t4 t5 t6 : Nat) (a : Option Addr) (cp : Nat) (g : Value) (ha : Option Addr) (hc : Nat) (ta : Option Addr) (tc : Nat), c.tw = [t1, t2, t3, t4, t5, t6] ∧
    W.heap[L]? = some (.cells (layC c t1 t2 t3 t4 t5 t6 a cp 0 c.engine c.master c.locks c.descs c.pools c.links c.heads c.towers c.words g (.slice ha c.nT hc) (.slice ta c.nT tc) c.d.cnt) 152 (0, 0)) ∧
    Rd W 1 (.slice a c.d.cuts.length cp) c.d.cuts.length (u64s c.d.cuts) ∧ Rd W 1 (.slice ha c.nT hc) c.nT (nums c.hs) ∧ Rd W 1 (.slice ta c.nT tc) c.nT (nums (tows c.towers c.hs))
theorem sizePlc : (Tryz.prog.info? 47).map (·.size) = some 10 := by kernel_rfl
section
variable {W W' : World} {L : Nat} {c : Cfg}
theorem LayAt.keep (h : LayAt W L c) (hk : Keep Nil W W') : LayAt W' L c := by
  obtain ⟨t1, t2, t3, t4, t5, t6, a, cp, g, ha, hc, ta, tc, e, ho, r1, r2, r3⟩ := h.obj
  exact ⟨t1, t2, t3, t4, t5, t6, a, cp, g, ha, hc, ta, tc, e, hk.at ho (fun h => h), rd_keep r1 hk (fun _ _ h => h), rd_keep r2 hk (fun _ _ h => h), rd_keep r3 hk (fun _ _ h => h)⟩
set_option maxRecDepth 100000 in
set_option maxHeartbeats 2000000 in
theorem places_ok (h : LayAt W L c) : Calls Tryz.prog 18 #[.pointer (some ⟨L, 0, none⟩)] W fun e w' => e = .returned (.agg (plcC c)) ∧ Keep Nil W w' := by
  obtain ⟨t1, t2, t3, t4, t5, t6, a, cp, g, ha, hc, ta, tc, e, ho, r1, r2, r3⟩ := h.obj
  have q0 : W.cell? ⟨L, 16, none⟩ = some (.int .i64 0) := by rw [cell_of ho]; rfl
  have q1 : W.cell? ⟨L, 17, none⟩ = some (.int .i64 (c.engine : Int)) := by rw [cell_of ho]; rfl
  have q2 : W.cell? ⟨L, 18, none⟩ = some (.int .i64 (c.master : Int)) := by rw [cell_of ho]; rfl
  have q3 : W.cell? ⟨L, 19, none⟩ = some (.int .i64 (c.locks : Int)) := by rw [cell_of ho]; rfl
  have q4 : W.cell? ⟨L, 20, none⟩ = some (.int .i64 (c.descs : Int)) := by rw [cell_of ho]; rfl
  have q5 : W.cell? ⟨L, 21, none⟩ = some (.int .i64 (c.pools : Int)) := by rw [cell_of ho]; rfl
  have q6 : W.cell? ⟨L, 22, none⟩ = some (.int .i64 (c.links : Int)) := by rw [cell_of ho]; rfl
  have q7 : W.cell? ⟨L, 23, none⟩ = some (.int .i64 (c.heads : Int)) := by rw [cell_of ho]; rfl
  have q8 : W.cell? ⟨L, 24, none⟩ = some (.int .i64 (c.towers : Int)) := by rw [cell_of ho]; rfl
  have q9 : W.cell? ⟨L, 25, none⟩ = some (.int .i64 (c.words : Int)) := by rw [cell_of ho]; rfl
  have hbz : L < W.heap.size := lt_of_block ho
  clear ho r1 r2 r3 h e
  go_enter Tryz.func18, Tryz.ntmps18
  go_wp2
  have hh := heap_alloc_new W (.cells (plcC c) 47)
  refine bodyPost_ret (results_cell_row rfl _ _ W.heap.size _ _ (0, 0) _ rfl hh Tryz.underlying47 rfl sizePlc) rfl ⟨rfl, (Keep.refl Nil W).alloc _⟩
set_option maxRecDepth 100000 in
set_option maxHeartbeats 2000000 in
theorem towers_ok (h : LayAt W L c) : Calls Tryz.prog 79 #[.pointer (some ⟨L, 0, none⟩)] W fun e w' => e = .returned (.int .i64 (c.nT : Int)) ∧ W = w' := by
  obtain ⟨t1, t2, t3, t4, t5, t6, a, cp, g, ha, hc, ta, tc, e, ho, r1, r2, r3⟩ := h.obj
  have q0 : W.cell? ⟨L, 27, none⟩ = some (.slice ha c.nT hc) := by rw [cell_of ho]; rfl
  clear ho r1 r2 r3 h e
  go_enter Tryz.func79, Tryz.ntmps79
  go_wp2
  go_ret
  exact ⟨rfl, rfl⟩
set_option maxRecDepth 100000 in
set_option maxHeartbeats 2000000 in
theorem height_ok (h : LayAt W L c) (hok : c.ok) {i x : Nat} (hx : c.hs[i]? = some x) (t : Int) (ht : t = i + 1) : Calls Tryz.prog 84 #[.pointer (some ⟨L, 0, none⟩), .int .i64 t] W fun e w' => e = .returned (.tuple #[.int .i64 (x : Int), .int .i64 0]) ∧ W = w' := by
  obtain ⟨t1, t2, t3, t4, t5, t6, a, cp, g, ha, hc, ta, tc, e, ho, r1, r2, r3⟩ := h.obj
  have hn := hok.nT
  obtain ⟨hlt, -⟩ := List.getElem?_eq_some_iff.1 hx
  have hlt' : i < c.nT := hlt
  obtain ⟨b, off, cc, hv, hcell⟩ := Rd.cell r2 (by omega)
  simp only [Value.slice.injEq] at hv
  obtain ⟨rfl, -, rfl⟩ := hv
  have cx := hcell i _ (nums_at hx)
  have q0 : W.cell? ⟨L, 27, none⟩ = some (.slice (some ⟨b, off, none⟩) c.nT hc) := by rw [cell_of ho]; rfl
  clear ho r1 r2 r3 h e hcell hx hlt hok
  generalize c.nT = n at *
  go_enter Tryz.func84, Tryz.ntmps84
  go_wp2_with fail
  refine (within_yes _ _ _ (by omega) (by omega)).mono ?_
  rintro e w' ⟨rfl, rfl⟩
  subst ht
  go_wp2
  go_ret2
  exact ⟨rfl, rfl⟩
set_option maxRecDepth 100000 in
set_option maxHeartbeats 2000000 in
theorem height_bad (h : LayAt W L c) (t : Int) (ht : t < 1 ∨ (c.nT : Int) < t) : Calls Tryz.prog 84 #[.pointer (some ⟨L, 0, none⟩), .int .i64 t] W fun e w' => e = .returned (.tuple #[.int .i64 0, .int .i64 3]) ∧ W = w' := by
  obtain ⟨t1, t2, t3, t4, t5, t6, a, cp, g, ha, hc, ta, tc, e, ho, r1, r2, r3⟩ := h.obj
  have q0 : W.cell? ⟨L, 27, none⟩ = some (.slice ha c.nT hc) := by rw [cell_of ho]; rfl
  clear ho r1 r2 r3 h e
  generalize c.nT = n at *
  go_enter Tryz.func84, Tryz.ntmps84
  go_wp2_with fail
  by_cases h1 : t < 1
  · refine (within_low _ _ _ h1).mono ?_
    rintro e w' ⟨rfl, rfl⟩
    go_wp2
    go_ret2
    exact ⟨rfl, rfl⟩
  · refine (within_high _ _ _ (by omega) (by omega)).mono ?_
    rintro e w' ⟨rfl, rfl⟩
    go_wp2
    go_ret2
    exact ⟨rfl, rfl⟩
end
end Go.Proofs.YtjghenomeindcaaGreat
