/- each: a thread begins to enter a section: contract. -/
import Derived.Test.YtihgfklajhhikaaEachAct
namespace Go.Proofs.Ytihgfklajhhikaa
open Go.RowKit Go.Lf
section
variable {w wr : World} {rb g sb cb mb : Nat} {F : Nat → Prop} {sl : List (Int × Bool)} {ws : List Int} {th : List ET} {log : List Acc}
/-- An Enter has begun, and has marked. -/
def EBegTo (w : World) (rb g sb cb mb : Nat) (sl : List (Int × Bool)) (ws : List Int) (th : List ET) (t : Nat) (x : ET) (n v : Int) (m : Nat) (w' : World) : Prop :=
  ∃ eb, ERunTo w rb g sb cb mb (sl.set t (n, true)) (ws.set (2 * t + 1) v) (th.set t { x with val := v, en := some (eb, 1) }) m w'
set_option maxRecDepth 100000 in
set_option maxHeartbeats 8000000 in
theorem eact_enter (h : ERunAt w wr rb g sb cb mb F sl ws th log) (t : Nat) (x : ET) (hx : th[t]? = some x) (hen : x.en = none) (hwt : x.wt = none) (hin : x.inn = false) (what v s : Int) (h0 : 0 ≤ what) (hw : what % 4 < 2) (v0 : 0 ≤ v) (v1 : v < 64) (n : Int) (hn : sl[t]? = some (n, false)) (n0 : 0 ≤ n) (hev : n % 2 = 0) (hlog : log.length < 100000000000) :
    Calls Try.prog 30 #[.pointer (some ⟨rb, 0, none⟩), .int .i64 t, .int .u8 what, .int .i64 v, .int .u64 s] wr fun e w' => e = .returned (.bool true) ∧ EBegTo w rb g sb cb mb sl ws th t x n v (log.length + 1) w' := by
  have t6 : t < 6 := by have := lt_of_at hx; have := h.lth; omega
  obtain ⟨c0, c1, c2, c3, c4, c5, c6⟩ := h.cells hx
  rw [hen] at c0
  rw [hwt] at c1
  rw [hin] at c2
  simp only [ptrO] at c0
  simp only [ptrO] at c1
  have cg := h.top.2
  have d1 : decide (what % 4 < 2) = true := decide_eq_true hw
  have ST := hid (eenter_ok h.sys v (t := (t : Int)) (i := t) (by omega) (by omega) v0 v1 n hn n0 hev)
  have H := hid h
  have HX := hid hx
  have HEN := hid hen
  have HWT := hid hwt
  clear h hx hen hwt hin hw hn hev c4 c5 c6
  go_enter Try.func30, Try.ntmps30
  go_wp2_with fail
  refine ST.out.mono ?_
  rintro e w2 ⟨rfl, hs2, he2, hk2, hz2⟩
  have r2 := H.out.adv hs2 hk2 (fun k hk => .inl hk) (fun k hk _ => .inr hk) (by rw [List.length_set]; exact H.out.lsl) H.out.lws
  have z0 := r2.free (2 + t * 7)
  have z3 := r2.free (2 + t * 7 + 3)
  have q0 := (r2.cells HX.out).1
  have q3 := (r2.cells HX.out).2.2.2.1
  rw [HEN.out] at q0
  simp only [ptrO] at q0
  have hle : w.heap.size ≤ wr.heap.size := H.out.own.1.size
  have nF : ¬ F wr.heap.size := fun hF => absurd (H.out.sys.mem.lt _ hF) (Nat.lt_irrefl _)
  have a3 : ERunAt w ((w2.setCell ⟨rb, 2 + t * 7, none⟩ (.pointer (some ⟨wr.heap.size, 0, none⟩))).setCell ⟨rb, 2 + t * 7 + 3, none⟩ (.int .i64 v)) rb g sb cb mb F (sl.set t (n, true)) ws (th.set t { x with val := v, en := some (wr.heap.size, 0) }) log := by
    have p0 := erun_set r2.run HX.out (j := 0) (by decide) (.pointer (some ⟨wr.heap.size, 0, none⟩)) (x' := { x with en := some (wr.heap.size, 0) }) rfl
    have p3 := erun_set p0 (put_self HX.out _) (j := 3) (by decide) (.int .i64 v) (x' := { x with val := v, en := some (wr.heap.size, 0) }) rfl
    rw [List.set_set] at p3
    refine r2.put (Keep.setCell (Keep.setCell (Keep.refl (fun k => k = rb) w2) (.inl rfl) _) (.inl rfl) _) p3 (fun b s hb => ?_) (fun b k hb => ?_) (fun b l hb => r2.musts t x b l HX.out hb)
    · simp only at hb; rw [HWT.out] at hb; cases hb
    · simp only [Option.some.injEq, Prod.mk.injEq] at hb
      obtain ⟨rfl, rfl⟩ := hb
      refine ⟨he2, nF, hle, fun i y c u hi hy hc e => ?_⟩
      have := lt_of_block (H.out.ents i y c u hy hc).1
      omega
  have ce0 := erenter_mark a3 t { x with val := v, en := some (wr.heap.size, 0) } wr.heap.size (put_self HX.out _) rfl v0 v1 hlog
  rw [List.set_set] at ce0
  have ce := hid ce0
  clear ce0 ST hs2 he2 hk2 hz2 r2 c0 c1 c2 c3 cg hle nF a3
  go_wp2_with fail
  refine ce.out.mono ?_
  rintro e w3 ⟨rfl, hq⟩
  have HQ := hid hq
  clear hq ce
  go_wp2
  go_ret
  exact ⟨rfl, _, HQ.out⟩
end
end Go.Proofs.Ytihgfklajhhikaa
