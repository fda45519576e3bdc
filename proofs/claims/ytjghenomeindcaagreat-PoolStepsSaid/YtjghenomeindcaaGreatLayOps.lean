/- layout: contracts of its parts. -/
import Derived.Test.YtjghenomeindcaaGreatLayPlain
import Derived.Test.YtjghenomeindcaaGreatDomCheck
import Derived.Test.YtjghenomeindcaaGreatBase
import Derived.StillTailTactics
import Derived.Deep.RegionHeld3
set_option linter.unusedVariables false
set_option linter.unusedSimpArgs false
namespace Go.Proofs.YtjghenomeindcaaGreat
open Go.RowKit Go.Lf
@[reducible] def cfgV (c : Cfg) (t1 t2 t3 t4 t5 t6 : Nat) (a : Option Addr) (cp : Nat) : Value :=
  .agg #[.int .i64 c.th, .int .i64 c.sl, .int .u8 c.eng, .int .i64 c.bk, .int .u8 c.d.k, .int .i64 c.d.n, .slice a c.d.cuts.length cp, .int .i64 t1, .int .i64 t2, .int .i64 t3, .int .i64 t4, .int .i64 t5, .int .i64 t6, .int .i64 c.lk, .int .i64 c.tr, .int .i64 c.ba]
section
variable {w : World}
theorem within_yes (n a b : Int) (h1 : a ≤ n) (h2 : n ≤ b) : Calls Tryz.prog 122 #[.int .i64 n, .int .i64 a, .int .i64 b] w fun e w' => e = .returned (.bool true) ∧ w = w' := by
  have d1 : decide (a ≤ n) = true := decide_eq_true h1
  have d2 : decide (n ≤ b) = true := decide_eq_true h2
  clear h1 h2
  go_enter Tryz.func122, Tryz.ntmps122
  go_wp2
  go_ret
  exact ⟨rfl, rfl⟩
theorem within_low (n a b : Int) (h1 : n < a) : Calls Tryz.prog 122 #[.int .i64 n, .int .i64 a, .int .i64 b] w fun e w' => e = .returned (.bool false) ∧ w = w' := by
  have d1 : decide (a ≤ n) = false := decide_eq_false (by omega)
  clear h1
  go_enter Tryz.func122, Tryz.ntmps122
  go_wp2
  go_ret
  exact ⟨rfl, rfl⟩
theorem within_high (n a b : Int) (h1 : a ≤ n) (h2 : b < n) : Calls Tryz.prog 122 #[.int .i64 n, .int .i64 a, .int .i64 b] w fun e w' => e = .returned (.bool false) ∧ w = w' := by
  have d1 : decide (a ≤ n) = true := decide_eq_true h1
  have d2 : decide (n ≤ b) = false := decide_eq_false (by omega)
  clear h1 h2
  go_enter Tryz.func122, Tryz.ntmps122
  go_wp2
  go_ret
  exact ⟨rfl, rfl⟩
set_option maxHeartbeats 2000000 in
theorem engine_ok (c : Cfg) (hc : c.ok) (t1 t2 t3 t4 t5 t6 : Nat) (a : Option Addr) (cp : Nat) : Calls Tryz.prog 72 #[cfgV c t1 t2 t3 t4 t5 t6 a cp] w fun e w' => e = .returned (.int .i64 (c.engW : Int)) ∧ Keep Nil w w' := by
  have h1 := hc.sl1
  have h2 := hc.sl2
  have hb : 0 ≤ (c.bk : Int) ∧ (c.bk : Int) ≤ 16 := by
    by_cases h : c.eng = 3
    · have := hc.bk3 h; omega
    · have := hc.bk0 h; omega
  have he := hc.eng
  have HE := hid (show c.engW = if c.eng = 1 then c.sl else if c.eng = 2 then 2 * c.sl else 4 * c.bk from rfl)
  clear hc
  unfold cfgV
  obtain ⟨th, sl, eng, bk, d, tw, lk, tr, ba⟩ := c
  simp only at *
  generalize Cfg.engW _ = ew at *
  obtain ⟨b0, b1⟩ := hb
  rcases he with rfl | rfl | rfl
  · have e : (ew : Int) = sl := by have := HE.out; simp at this; omega
    rw [e]
    clear e HE
    go_enter Tryz.func72, Tryz.ntmps72
    go_wp2
    go_ret
    exact ⟨rfl, ((Keep.refl Nil w).alloc _).alloc _⟩
  · have e : (ew : Int) = 2 * sl := by have := HE.out; simp at this; omega
    rw [e]
    clear e HE
    go_enter Tryz.func72, Tryz.ntmps72
    go_wp2
    go_ret
    exact ⟨rfl, ((Keep.refl Nil w).alloc _).alloc _⟩
  · have e : (ew : Int) = 4 * bk := by have := HE.out; simp at this; omega
    rw [e]
    clear e HE
    go_enter Tryz.func72, Tryz.ntmps72
    go_wp2
    go_ret
    exact ⟨rfl, ((Keep.refl Nil w).alloc _).alloc _⟩
theorem empty_rowL (w : World) (e : TypeId) (size : Nat) : (w.alloc (.cells #[] e)).ownsRow 0 e size (.slice (some ⟨w.heap.size, 0, none⟩) 0 0) 0 [] :=
  ⟨by simp, .inr ⟨_, 0, #[], rfl, Nat.zero_le _, heap_alloc_new w _, Nat.le_refl _, Nat.zero_le _, by simp, by simp⟩⟩
theorem infoU64L : (Tryz.prog.info? 54).map (fun i => (i.zero, i.size, i.bytes)) = some (some (.int .u64 0), 1, 8) := by kernel_rfl
theorem cl_some (w : World) (ad : Addr) (n c : Nat) : (binOp .eql 37 (.slice (some ad) n c) (.slice none 0 0)).run Tryz.prog w = .ok (.bool false) w := run_eql_some w Tryz.underlying37 ad n c
theorem cl_none (w : World) (n c : Nat) : (binOp .eql 37 (.slice none n c) (.slice none 0 0)).run Tryz.prog w = .ok (.bool true) w := run_eql_none w Tryz.underlying37 n c
attribute [local go_sem] cl_some cl_none
def CloneTo (w : World) (l : List Int) (e : Ending) (w' : World) : Prop := ∃ a c, e = .returned (.slice a l.length c) ∧ Rd w' 1 (.slice a l.length c) l.length (u64s l) ∧ Keep Nil w w' ∧ ∀ k, (Value.slice a l.length c).ownBlock = some k → w.heap.size ≤ k ∧ k < w'.heap.size
set_option maxRecDepth 100000 in
set_option maxHeartbeats 2000000 in
theorem clone_ok (l : List Int) (a : Option Addr) (c : Nat) (hrd : Rd w 1 (.slice a l.length c) l.length (u64s l)) (hm : l.length ≤ 1000000) : Calls Tryz.prog 69 #[.slice a l.length c] w (CloneTo w l) := by
  have HRD := hid hrd
  cases a with
  | none =>
    obtain ⟨h0, rfl⟩ : l.length = 0 ∧ c = 0 := by
      obtain ⟨a', c', hv, hl, h⟩ := hrd
      simp only [Value.slice.injEq] at hv
      obtain ⟨rfl, -, rfl⟩ := hv
      rcases h with ⟨-, h1, h2⟩ | ⟨b, off, h1, -⟩ | ⟨⟨ad, h1⟩, -⟩
      · exact ⟨h1, h2⟩
      · cases h1
      · cases h1
    have hl : l = [] := List.eq_nil_of_length_eq_zero h0
    subst hl
    clear hrd h0 hm
    go_enter Tryz.func69, Tryz.ntmps69
    go_wp2
    go_ret
    exact ⟨none, 0, rfl, HRD.out, Keep.refl _ _, fun k hk => by simp [Value.ownBlock] at hk⟩
  | some ad =>
    clear hrd
    go_enter Tryz.func69, Tryz.ntmps69
    go_wp2_with (at_builtin; refine wpList_app _ rfl (.tmp 5) (.tmp 6) 37 rfl 54 _ 1 8 Tryz.underlying37 infoU64L rfl (by decide) (.slice (some ⟨w.heap.size, 0, none⟩) 0 0) 0 [] rfl ?own (.slice (some ad) l.length c) l.length (u64s l) rfl ?rd ?one ?byt ?len ?_)
    case own => exact empty_rowL _ _ _
    case rd => exact rd_keep HRD.out (Keep.alloc (Keep.refl Nil _) _) (fun _ _ h => h)
    case one => exact u64s_one _
    case byt => omega
    case len => unfold maxLen; omega
    intro a' c' w1 ho hg hs
    have k2 : Keep Nil w w1 := Keep.grown (Keep.alloc (Keep.refl _ _) _) hg (fun j hj => .inr (by simp [Value.ownBlock] at hj; omega))
    have R2 := hid (row_rd ho)
    have K2 := hid k2
    have S2 := hid (show ∀ k, (Value.slice a' l.length c').ownBlock = some k → w.heap.size ≤ k ∧ k < w1.heap.size from fun k hk => by
      refine ⟨?_, (ho.lt k (by simpa using hk)).2⟩
      rcases hs k hk with h | h
      · simp [Value.ownBlock] at h; omega
      · simp at h; omega)
    clear ho hg hs k2
    go_wp2
    go_ret
    exact ⟨a', c', rfl, R2.out, K2.out, S2.out⟩
theorem ix0 (x0 x1 x2 x3 x4 x5 : Value) (W : World) : (Instr.index 40 (.agg #[x0, x1, x2, x3, x4, x5]) (.int .i64 0)).run Tryz.prog W = .ok x0 W := by kernel_rfl
theorem ix1 (x0 x1 x2 x3 x4 x5 : Value) (W : World) : (Instr.index 40 (.agg #[x0, x1, x2, x3, x4, x5]) (.int .i64 1)).run Tryz.prog W = .ok x1 W := by kernel_rfl
theorem ix2 (x0 x1 x2 x3 x4 x5 : Value) (W : World) : (Instr.index 40 (.agg #[x0, x1, x2, x3, x4, x5]) (.int .i64 2)).run Tryz.prog W = .ok x2 W := by kernel_rfl
theorem ix3 (x0 x1 x2 x3 x4 x5 : Value) (W : World) : (Instr.index 40 (.agg #[x0, x1, x2, x3, x4, x5]) (.int .i64 3)).run Tryz.prog W = .ok x3 W := by kernel_rfl
theorem ix4 (x0 x1 x2 x3 x4 x5 : Value) (W : World) : (Instr.index 40 (.agg #[x0, x1, x2, x3, x4, x5]) (.int .i64 4)).run Tryz.prog W = .ok x4 W := by kernel_rfl
theorem ix5 (x0 x1 x2 x3 x4 x5 : Value) (W : World) : (Instr.index 40 (.agg #[x0, x1, x2, x3, x4, x5]) (.int .i64 5)).run Tryz.prog W = .ok x5 W := by kernel_rfl
attribute [local go_sem] ix0 ix1 ix2 ix3 ix4 ix5
theorem box16 {w1 : World} {x0 x1 x2 x3 x4 x5 x6 x7 x8 x9 x10 x11 x12 x13 x14 x15 : Value} {t : TypeId} (hk : Keep Nil (w.alloc (.cells #[x0, x1, x2, x3, x4, x5, x6, x7, x8, x9, x10, x11, x12, x13, x14, x15] t (0, 0))) w1) : w1.cell? ⟨w.heap.size, 13, none⟩ = some x13 ∧ w1.cell? ⟨w.heap.size, 14, none⟩ = some x14 ∧ w1.cell? ⟨w.heap.size, 15, none⟩ = some x15 :=
  have h := hk.at (heap_alloc_new w _) (fun h => h)
  by refine ⟨?_, ?_, ?_⟩ <;> (rw [cell_of h]; rfl)
set_option maxRecDepth 100000 in
set_option maxHeartbeats 4000000 in
theorem lcheck_ok (c : Cfg) (hc : c.ok) (t1 t2 t3 t4 t5 t6 : Nat) (htw : c.tw = [t1, t2, t3, t4, t5, t6]) (a : Option Addr) (cp : Nat) (hrd : Rd w 1 (.slice a c.d.cuts.length cp) c.d.cuts.length (u64s c.d.cuts)) : Calls Tryz.prog 68 #[cfgV c t1 t2 t3 t4 t5 t6 a cp] w fun e w' => e = .returned (.int .i64 0) ∧ Keep Nil w w' := by
  have hsum := hc.tw
  rw [htw] at hsum
  simp only [List.sum_cons, List.sum_nil] at hsum
  have HC := hid hc
  have HRD := hid hrd
  have HD := hid (Dom.err_ok hc.d)
  have hb := hc.eng
  clear hrd hc
  have l1 : decide ((t1 : Int) < 0) = false := decide_eq_false (by omega)
  have l2 : decide ((t2 : Int) < 0) = false := decide_eq_false (by omega)
  have l3 : decide ((t3 : Int) < 0) = false := decide_eq_false (by omega)
  have l4 : decide ((t4 : Int) < 0) = false := decide_eq_false (by omega)
  have l5 : decide ((t5 : Int) < 0) = false := decide_eq_false (by omega)
  have l6 : decide ((t6 : Int) < 0) = false := decide_eq_false (by omega)
  have g1 : decide (1024 < (t1 : Int)) = false := decide_eq_false (by omega)
  have g2 : decide (1024 - (t1 : Int) < (t2 : Int)) = false := decide_eq_false (by omega)
  have g3 : decide (1024 - (t1 : Int) - t2 < (t3 : Int)) = false := decide_eq_false (by omega)
  have g4 : decide (1024 - (t1 : Int) - t2 - t3 < (t4 : Int)) = false := decide_eq_false (by omega)
  have g5 : decide (1024 - (t1 : Int) - t2 - t3 - t4 < (t5 : Int)) = false := decide_eq_false (by omega)
  have g6 : decide (1024 - (t1 : Int) - t2 - t3 - t4 - t5 < (t6 : Int)) = false := decide_eq_false (by omega)
  unfold cfgV
  have HM := hid (show c.d.cuts.length ≤ 1000000 by
    rcases HC.out.d with ⟨_, _, h⟩ | ⟨_, _, h⟩ | ⟨_, _, h, _⟩
    · rw [h]; decide
    · rw [h]; decide
    · omega)
  rcases hb with hb | hb | hb
  · have e0 : ((c.bk : Int) == 0) = true := beq_iff_eq.2 (by have := HC.out.bk0 (by omega); omega)
    rw [hb]
    clear hb
    go_enter Tryz.func68, Tryz.ntmps68
    go_wp2_with fail
    refine wp_loop_rounds 7 ?_; repeat any_goals (rw [rounds_succ]; go_wp2_with fail)
    refine (within_yes _ _ _ HC.out.th1 HC.out.th2).mono ?_
    rintro e w' ⟨rfl, rfl⟩
    go_wp2_with fail
    refine (within_yes _ _ _ (by have := HC.out.sl1; omega) (by have := HC.out.sl2; omega)).mono ?_
    rintro e w' ⟨rfl, rfl⟩
    go_wp2_with fail
    refine (dcheck_any c.d (rd_keep HRD.out ((Keep.refl Nil w).alloc _) (fun _ _ h => h)) HM.out).mono ?_
    rw [HD.out]
    rintro e w2 ⟨rfl, hk⟩
    obtain ⟨c13, c14, c15⟩ := box16 hk
    have HK := hid (((Keep.refl Nil w).alloc _).trans hk (fun _ _ h => h))
    clear hk
    go_wp2_with fail
    refine (within_yes _ _ _ (by have := HC.out.lk1; omega) (by have := HC.out.lk2; omega)).mono ?_
    rintro e w' ⟨rfl, rfl⟩
    go_wp2_with fail
    refine (within_yes _ _ _ HC.out.tr1 HC.out.tr2).mono ?_
    rintro e w' ⟨rfl, rfl⟩
    go_wp2_with fail
    refine (within_yes _ _ _ HC.out.ba1 HC.out.ba2).mono ?_
    rintro e w' ⟨rfl, rfl⟩
    go_wp2
    go_ret
    exact ⟨rfl, HK.out⟩
  · have e0 : ((c.bk : Int) == 0) = true := beq_iff_eq.2 (by have := HC.out.bk0 (by omega); omega)
    rw [hb]
    clear hb
    go_enter Tryz.func68, Tryz.ntmps68
    go_wp2_with fail
    refine wp_loop_rounds 7 ?_; repeat any_goals (rw [rounds_succ]; go_wp2_with fail)
    refine (within_yes _ _ _ HC.out.th1 HC.out.th2).mono ?_
    rintro e w' ⟨rfl, rfl⟩
    go_wp2_with fail
    refine (within_yes _ _ _ (by have := HC.out.sl1; omega) (by have := HC.out.sl2; omega)).mono ?_
    rintro e w' ⟨rfl, rfl⟩
    go_wp2_with fail
    refine (dcheck_any c.d (rd_keep HRD.out ((Keep.refl Nil w).alloc _) (fun _ _ h => h)) HM.out).mono ?_
    rw [HD.out]
    rintro e w2 ⟨rfl, hk⟩
    obtain ⟨c13, c14, c15⟩ := box16 hk
    have HK := hid (((Keep.refl Nil w).alloc _).trans hk (fun _ _ h => h))
    clear hk
    go_wp2_with fail
    refine (within_yes _ _ _ (by have := HC.out.lk1; omega) (by have := HC.out.lk2; omega)).mono ?_
    rintro e w' ⟨rfl, rfl⟩
    go_wp2_with fail
    refine (within_yes _ _ _ HC.out.tr1 HC.out.tr2).mono ?_
    rintro e w' ⟨rfl, rfl⟩
    go_wp2_with fail
    refine (within_yes _ _ _ HC.out.ba1 HC.out.ba2).mono ?_
    rintro e w' ⟨rfl, rfl⟩
    go_wp2
    go_ret
    exact ⟨rfl, HK.out⟩
  · have HB3 := hid (show 1 ≤ (c.bk : Int) ∧ (c.bk : Int) ≤ 16 by have := HC.out.bk3 hb; omega)
    have e0 : ((c.bk : Int) == 0) = false := beq_eq_false_iff_ne.2 (by have := HB3.out; omega)
    rw [hb]
    clear hb
    go_enter Tryz.func68, Tryz.ntmps68
    go_wp2_with fail
    refine (within_yes _ _ _ HB3.out.1 HB3.out.2).mono ?_
    rintro e w' ⟨rfl, rfl⟩
    go_wp2_with fail
    refine wp_loop_rounds 7 ?_; repeat any_goals (rw [rounds_succ]; go_wp2_with fail)
    refine (within_yes _ _ _ HC.out.th1 HC.out.th2).mono ?_
    rintro e w' ⟨rfl, rfl⟩
    go_wp2_with fail
    refine (within_yes _ _ _ (by have := HC.out.sl1; omega) (by have := HC.out.sl2; omega)).mono ?_
    rintro e w' ⟨rfl, rfl⟩
    go_wp2_with fail
    refine (dcheck_any c.d (rd_keep HRD.out ((Keep.refl Nil w).alloc _) (fun _ _ h => h)) HM.out).mono ?_
    rw [HD.out]
    rintro e w2 ⟨rfl, hk⟩
    obtain ⟨c13, c14, c15⟩ := box16 hk
    have HK := hid (((Keep.refl Nil w).alloc _).trans hk (fun _ _ h => h))
    clear hk
    go_wp2_with fail
    refine (within_yes _ _ _ (by have := HC.out.lk1; omega) (by have := HC.out.lk2; omega)).mono ?_
    rintro e w' ⟨rfl, rfl⟩
    go_wp2_with fail
    refine (within_yes _ _ _ HC.out.tr1 HC.out.tr2).mono ?_
    rintro e w' ⟨rfl, rfl⟩
    go_wp2_with fail
    refine (within_yes _ _ _ HC.out.ba1 HC.out.ba2).mono ?_
    rintro e w' ⟨rfl, rfl⟩
    go_wp2
    go_ret
    exact ⟨rfl, HK.out⟩
end
end Go.Proofs.YtjghenomeindcaaGreat

/-! layout: where a layout lies, and what its readers return. -/
set_option linter.unusedVariables false
set_option linter.unusedSimpArgs false
namespace Go.Proofs.YtjghenomeindcaaGreat
open Go.RowKit Go.Lf
/-- The places of a configuration. -/
@[reducible] def plcC (c : Cfg) : Array Value := #[.int .i64 0, .int .i64 (c.engine : Int), .int .i64 (c.master : Int), .int .i64 (c.locks : Int), .int .i64 (c.descs : Int), .int .i64 (c.pools : Int), .int .i64 (c.links : Int), .int .i64 (c.heads : Int), .int .i64 (c.towers : Int), .int .i64 (c.words : Int)]
@[reducible] def layC (c : Cfg) (t1 t2 t3 t4 t5 t6 : Nat) (a : Option Addr) (cp : Nat) (p0 p1 p2 p3 p4 p5 p6 p7 p8 p9 : Int) (g h t : Value) (v : Int) : Array Value :=
  #[.int .i64 c.th, .int .i64 c.sl, .int .u8 c.eng, .int .i64 c.bk, .int .u8 c.d.k, .int .i64 c.d.n, .slice a c.d.cuts.length cp, .int .i64 t1, .int .i64 t2, .int .i64 t3, .int .i64 t4, .int .i64 t5, .int .i64 t6, .int .i64 c.lk, .int .i64 c.tr, .int .i64 c.ba,
    .int .i64 p0, .int .i64 p1, .int .i64 p2, .int .i64 p3, .int .i64 p4, .int .i64 p5, .int .i64 p6, .int .i64 p7, .int .i64 p8, .int .i64 p9, g, h, t, .int .i64 v]
structure LayAt (W : World) (L : Nat) (c : Cfg) : Prop where
  obj : ∃ (t1 t2 t3 t4 t5 t6 : Nat) (a : Option Addr) (cp : Nat) (g : Value) (ha : Option Addr) (hc : Nat) (ta : Option Addr) (tc : Nat), c.tw = [t1, t2, t3, t4, t5, t6] ∧
    W.heap[L]? = some (.cells (layC c t1 t2 t3 t4 t5 t6 a cp 0 c.engine c.master c.locks c.descs c.pools c.links c.heads c.towers c.words g (.slice ha c.nT hc) (.slice ta c.nT tc) c.d.cnt) 152 (0, 0)) ∧
    Rd W 1 (.slice a c.d.cuts.length cp) c.d.cuts.length (u64s c.d.cuts) ∧ Rd W 1 (.slice ha c.nT hc) c.nT (nums c.hs) ∧ Rd W 1 (.slice ta c.nT tc) c.nT (nums (tows c.towers c.hs))
theorem sizePlc : (Tryz.prog.info? 47).map (·.size) = some 10 := by kernel_rfl
section
variable {W W' : World} {L : Nat} {c : Cfg}
theorem LayAt.keep (h : LayAt W L c) (hk : Keep Nil W W') : LayAt W' L c := by
  obtain ⟨t1, t2, t3, t4, t5, t6, a, cp, g, ha, hc, ta, tc, e, ho, r1, r2, r3⟩ := h.obj
  exact ⟨t1, t2, t3, t4, t5, t6, a, cp, g, ha, hc, ta, tc, e, hk.at ho (fun h => h), rd_keep r1 hk (fun _ _ h => h), rd_keep r2 hk (fun _ _ h => h), rd_keep r3 hk (fun _ _ h => h)⟩
set_option maxRecDepth 100000 in
set_option maxHeartbeats 2000000 in
theorem places_ok (h : LayAt W L c) : Calls Tryz.prog 18 #[.pointer (some ⟨L, 0, none⟩)] W fun e w' => e = .returned (.agg (plcC c)) ∧ Keep Nil W w' := by
  obtain ⟨t1, t2, t3, t4, t5, t6, a, cp, g, ha, hc, ta, tc, e, ho, r1, r2, r3⟩ := h.obj
  have q0 : W.cell? ⟨L, 16, none⟩ = some (.int .i64 0) := by rw [cell_of ho]; rfl
  have q1 : W.cell? ⟨L, 17, none⟩ = some (.int .i64 (c.engine : Int)) := by rw [cell_of ho]; rfl
  have q2 : W.cell? ⟨L, 18, none⟩ = some (.int .i64 (c.master : Int)) := by rw [cell_of ho]; rfl
  have q3 : W.cell? ⟨L, 19, none⟩ = some (.int .i64 (c.locks : Int)) := by rw [cell_of ho]; rfl
  have q4 : W.cell? ⟨L, 20, none⟩ = some (.int .i64 (c.descs : Int)) := by rw [cell_of ho]; rfl
  have q5 : W.cell? ⟨L, 21, none⟩ = some (.int .i64 (c.pools : Int)) := by rw [cell_of ho]; rfl
  have q6 : W.cell? ⟨L, 22, none⟩ = some (.int .i64 (c.links : Int)) := by rw [cell_of ho]; rfl
  have q7 : W.cell? ⟨L, 23, none⟩ = some (.int .i64 (c.heads : Int)) := by rw [cell_of ho]; rfl
  have q8 : W.cell? ⟨L, 24, none⟩ = some (.int .i64 (c.towers : Int)) := by rw [cell_of ho]; rfl
  have q9 : W.cell? ⟨L, 25, none⟩ = some (.int .i64 (c.words : Int)) := by rw [cell_of ho]; rfl
  have hbz : L < W.heap.size := lt_of_block ho
  clear ho r1 r2 r3 h e
  go_enter Tryz.func18, Tryz.ntmps18
  go_wp2
  have hh := heap_alloc_new W (.cells (plcC c) 47)
  refine bodyPost_ret (results_cell_row rfl _ _ W.heap.size _ _ (0, 0) _ rfl hh Tryz.underlying47 rfl sizePlc) rfl ⟨rfl, (Keep.refl Nil W).alloc _⟩
set_option maxRecDepth 100000 in
set_option maxHeartbeats 2000000 in
theorem towers_ok (h : LayAt W L c) : Calls Tryz.prog 79 #[.pointer (some ⟨L, 0, none⟩)] W fun e w' => e = .returned (.int .i64 (c.nT : Int)) ∧ W = w' := by
  obtain ⟨t1, t2, t3, t4, t5, t6, a, cp, g, ha, hc, ta, tc, e, ho, r1, r2, r3⟩ := h.obj
  have q0 : W.cell? ⟨L, 27, none⟩ = some (.slice ha c.nT hc) := by rw [cell_of ho]; rfl
  clear ho r1 r2 r3 h e
  go_enter Tryz.func79, Tryz.ntmps79
  go_wp2
  go_ret
  exact ⟨rfl, rfl⟩
set_option maxRecDepth 100000 in
set_option maxHeartbeats 2000000 in
theorem height_ok (h : LayAt W L c) (hok : c.ok) {i x : Nat} (hx : c.hs[i]? = some x) (t : Int) (ht : t = i + 1) : Calls Tryz.prog 84 #[.pointer (some ⟨L, 0, none⟩), .int .i64 t] W fun e w' => e = .returned (.tuple #[.int .i64 (x : Int), .int .i64 0]) ∧ W = w' := by
  obtain ⟨t1, t2, t3, t4, t5, t6, a, cp, g, ha, hc, ta, tc, e, ho, r1, r2, r3⟩ := h.obj
  have hn := hok.nT
  obtain ⟨hlt, -⟩ := List.getElem?_eq_some_iff.1 hx
  have hlt' : i < c.nT := hlt
  obtain ⟨b, off, cc, hv, hcell⟩ := Rd.cell r2 (by omega)
  simp only [Value.slice.injEq] at hv
  obtain ⟨rfl, -, rfl⟩ := hv
  have cx := hcell i _ (nums_at hx)
  have q0 : W.cell? ⟨L, 27, none⟩ = some (.slice (some ⟨b, off, none⟩) c.nT hc) := by rw [cell_of ho]; rfl
  clear ho r1 r2 r3 h e hcell hx hlt hok
  generalize c.nT = n at *
  go_enter Tryz.func84, Tryz.ntmps84
  go_wp2_with fail
  refine (within_yes _ _ _ (by omega) (by omega)).mono ?_
  rintro e w' ⟨rfl, rfl⟩
  subst ht
  go_wp2
  go_ret2
  exact ⟨rfl, rfl⟩
set_option maxRecDepth 100000 in
set_option maxHeartbeats 2000000 in
theorem height_bad (h : LayAt W L c) (t : Int) (ht : t < 1 ∨ (c.nT : Int) < t) : Calls Tryz.prog 84 #[.pointer (some ⟨L, 0, none⟩), .int .i64 t] W fun e w' => e = .returned (.tuple #[.int .i64 0, .int .i64 3]) ∧ W = w' := by
  obtain ⟨t1, t2, t3, t4, t5, t6, a, cp, g, ha, hc, ta, tc, e, ho, r1, r2, r3⟩ := h.obj
  have q0 : W.cell? ⟨L, 27, none⟩ = some (.slice ha c.nT hc) := by rw [cell_of ho]; rfl
  clear ho r1 r2 r3 h e
  generalize c.nT = n at *
  go_enter Tryz.func84, Tryz.ntmps84
  go_wp2_with fail
  by_cases h1 : t < 1
  · refine (within_low _ _ _ h1).mono ?_
    rintro e w' ⟨rfl, rfl⟩
    go_wp2
    go_ret2
    exact ⟨rfl, rfl⟩
  · refine (within_high _ _ _ (by omega) (by omega)).mono ?_
    rintro e w' ⟨rfl, rfl⟩
    go_wp2
    go_ret2
    exact ⟨rfl, rfl⟩
end
end Go.Proofs.YtjghenomeindcaaGreat

/-! layout: Initial: the walk. field.Top. -/
set_option linter.unusedVariables false
set_option linter.unusedSimpArgs false
namespace Go.Proofs.YtjghenomeindcaaGreat
open Go.RowKit Go.Lf
section
variable {w : World} {L : Nat} {c : Cfg}
set_option maxHeartbeats 1000000 in
theorem top_ok (g t : Int) (g0 : 0 ≤ g) (g1 : g ≤ 1099511627775) (t0 : 0 ≤ t) (t1 : t ≤ 1024) : Calls Tryz.prog 78 #[.int .u64 g, .int .i64 t] w fun e w' => e = .returned (.tuple #[.int .u64 (t + 65536 * g), .int .i64 0]) ∧ w = w' := by
  have d1 : decide (1099511627775 < g) = false := decide_eq_false (by omega)
  have d2 : decide (t < 0) = false := decide_eq_false (by omega)
  have d3 : decide (1024 < t) = false := decide_eq_false (by omega)
  go_enter Tryz.func78, Tryz.ntmps78
  go_wp2
  go_ret2
  exact ⟨rfl, rfl⟩
theorem top_w (t : Int) (t0 : 0 ≤ t) (t1 : t ≤ 1024) : Calls Tryz.prog 78 #[.int .u64 0, .int .i64 (IntKind.i64.wrap t)] w fun e w' => e = .returned (.tuple #[.int .u64 t, .int .i64 0]) ∧ w = w' := by
  have e : IntKind.i64.wrap t = t := by rw [IntKind.wrap_i64]; omega
  rw [e]
  have h := top_ok (w := w) 0 t (by decide) (by decide) t0 t1
  rw [show t + 65536 * 0 = t by omega] at h
  exact h
def u64n (l : List Nat) : List Value := u64s (ints l)
theorem u64n_set (l : List Nat) (i v : Nat) : u64n (l.set i v) = (u64n l).set i (.int .u64 (v : Int)) := by simp [u64n, u64s, ints, List.map_set]
theorem u64n_len (l : List Nat) : (u64n l).length = l.length := by simp [u64n, u64s, ints]
theorem initP_len (c : Cfg) (k : Nat) : (c.initP k).length = c.words := by
  induction k with
  | zero => exact fill_len _ _
  | succ k ih => rw [Cfg.initP]; split <;> rw [List.length_set, ih]
theorem initP_succ (c : Cfg) (i : Nat) : c.initP (i + 1) = if 0 < i ∧ c.hs[i - 1]? = c.hs[i]? then (c.initP i).set (c.links + i - 1) (i + 1) else (c.initP i).set (c.pools + ((c.hs[i]?).getD 0) - 1) (i + 1) := by rw [Cfg.initP]
theorem u64n_at {l : List Nat} {i x : Nat} (h : l[i]? = some x) : (u64n l)[i]? = some (.int .u64 (x : Int)) := by simp [u64n, u64s, ints, h]
theorem initP_set (c : Cfg) (k i v : Nat) : (u64n (c.initP k)).toArray.setIfInBounds i (.int .u64 (v : Int)) = (u64n ((c.initP k).set i v)).toArray := by rw [u64n_set]; simp
theorem initP_zero (c : Cfg) : madeCells #[.int .u64 0] (c.words * 1) = (u64n (c.initP 0)).toArray := by
  rw [Cfg.initP, made_one, Nat.mul_one]
  congr 1
  apply List.ext_getElem?
  intro i
  by_cases hi : i < c.words
  · rw [u64n_at (fill_at _ hi), List.getElem?_replicate_of_lt hi]; rfl
  · rw [List.getElem?_eq_none (by simp; omega), List.getElem?_eq_none (by rw [u64n_len, fill_len]; omega)]
def InitTo (w : World) (c : Cfg) (e : Ending) (w' : World) : Prop := e = .returned (.slice (some ⟨w.heap.size, 0, none⟩) c.words c.words) ∧ w'.heap[w.heap.size]? = some (.cells (u64n c.init).toArray 54 (0, 0)) ∧ Keep Nil w w'
theorem infoU64I : (Tryz.prog.info? 54).map (fun i => (i.zero, i.size, i.bytes)) = some (some (.int .u64 0), 1, 8) := by kernel_rfl
set_option maxRecDepth 100000 in
set_option maxHeartbeats 3000000 in
theorem initial_ok (h : LayAt w L c) (hok : c.ok) (hwd : c.words ≤ 100000) : Calls Tryz.prog 30 #[.pointer (some ⟨L, 0, none⟩)] w (InitTo w c) := by
  obtain ⟨t1, t2, t3, t4, t5, t6, a, cp, g, ha, hc, ta, tc, e, ho, r1, r2, r3⟩ := h.obj
  have q5 : w.cell? ⟨L, 21, none⟩ = some (.int .i64 (c.pools : Int)) := by rw [cell_of ho]; rfl
  have q6 : w.cell? ⟨L, 22, none⟩ = some (.int .i64 (c.links : Int)) := by rw [cell_of ho]; rfl
  have q9 : w.cell? ⟨L, 25, none⟩ = some (.int .i64 (c.words : Int)) := by rw [cell_of ho]; rfl
  have qh : w.cell? ⟨L, 27, none⟩ = some (.slice ha c.nT hc) := by rw [cell_of ho]; rfl
  have HO := hid ho
  have HR := hid r2
  have HC := hid hok
  have hn := hok.nT
  clear ho r1 r2 r3 h e hok
  go_enter Tryz.func30, Tryz.ntmps30
  go_wp2_with (at_make; refine wpList_mk _ rfl _ _ 37 rfl 54 _ 1 8 Tryz.underlying37 infoU64I _ _ (c.words : Int) rfl rfl ?p0 ?p1 ?p2 ?_)
  case p0 => omega
  case p1 => omega
  case p2 => omega
  intro w1 hh hk hz
  have hrow : w1.heap[w.heap.size]? = some (.cells (u64n (c.initP 0)).toArray 54 (0, 0)) := by
    rw [hh, ← initP_zero]; simp
  have u9 : w1.cell? ⟨L, 27, none⟩ = some (.slice ha c.nT hc) := hk.cell qh (fun h => h)
  have HROW := hid hrow
  have HK := hid hk
  clear hh hk hz hrow q5 q6 q9 qh
  go_wp2
  go_loopw [19] (fun i wr => ∃ k : Nat, k ≤ c.nT ∧ i = .int .i64 k ∧ wr.heap[w.heap.size]? = some (.cells (u64n (c.initP k)).toArray 54 (0, 0)) ∧ Keep Nil w wr) (fun i _ => c.nT - (intOf i).toNat)
  case atStart => exact ⟨0, Nat.zero_le _, rfl, HROW.out, HK.out⟩
  case round =>
    obtain ⟨k, hk, rfl, hr, hkk⟩ := hrel
    have HQ := hid hr
    have HKK := hid hkk
    clear hr hkk
    by_cases hlt : k < c.nT
    · obtain ⟨x, hx⟩ : ∃ x, c.hs[k]? = some x := ⟨_, List.getElem?_eq_getElem hlt⟩
      obtain ⟨x1, x6⟩ := HC.out.hs x (List.mem_of_getElem? hx)
      obtain ⟨z, rfl⟩ : ∃ z, x = z + 1 := ⟨x - 1, by omega⟩
      have e1 := c.le1
      have e2 := c.le2
      have e3 := c.le3
      have ho' := HKK.out.at HO.out (fun h => h)
      have hLz : L < w.heap.size := lt_of_block HO.out
      have hLn : L ≠ w.heap.size := by omega
      have hLm : w.heap.size ≠ L := by omega
      have q5 : wr.cell? ⟨L, 21, none⟩ = some (.int .i64 (c.pools : Int)) := by rw [cell_of ho']; rfl
      have q6 : wr.cell? ⟨L, 22, none⟩ = some (.int .i64 (c.links : Int)) := by rw [cell_of ho']; rfl
      have qh : wr.cell? ⟨L, 27, none⟩ = some (.slice ha c.nT hc) := by rw [cell_of ho']; rfl
      obtain ⟨bb, off, cc, hv, hcell⟩ := Rd.cell (rd_keep HR.out HKK.out (fun _ _ h => h)) (by omega)
      simp only [Value.slice.injEq] at hv
      obtain ⟨rfl, -, rfl⟩ := hv
      have cx := hcell k _ (nums_at hx)
      have HCELL := hid hcell
      have hfz : ∀ i, wr.frozen? ⟨w.heap.size, i, none⟩ = false := fun i => free_of HQ.out i
      have hcz : ∀ i, i < c.words → ∃ u, wr.cell? ⟨w.heap.size, i, none⟩ = some u := fun i hi => by
        rw [cell_of HQ.out]
        exact ⟨_, by simpa using u64n_at (List.getElem?_eq_getElem (show i < (c.initP k).length by rw [initP_len]; exact hi))⟩
      have HFZ := hid hfz
      have HCZ := hid hcz
      clear ho' hcell hfz hcz
      cases k with
      | zero =>
        rw [Nat.add_zero] at cx
        have hjw : c.pools + z < c.words := by omega
        have HI := hid (show c.initP (0 + 1) = (c.initP (0)).set (c.pools + z) (0 + 1) by rw [initP_succ, if_neg (fun h => absurd h.1 (Nat.lt_irrefl 0)), hx]; rfl)
        obtain ⟨u, cz⟩ := HCZ.out _ hjw
        have fz := HFZ.out (c.pools + z)
        have hw1 : IntKind.i64.wrap ((c.pools : Int) + ((z : Int) + 1)) = (c.pools : Int) + ((z : Int) + 1) := by rw [IntKind.wrap_i64]; omega
        have hw2 : IntKind.i64.wrap ((c.pools : Int) + ((z : Int) + 1) - 1) = ((c.pools + z : Nat) : Int) := by rw [IntKind.wrap_i64]; omega
        have hb0 : (c.pools : Int) + (z : Int) < (c.words : Int) := by omega
        have hb00 : (0 : Int) ≤ (c.pools : Int) + (z : Int) := by omega
        have htn : ((c.pools : Int) + (z : Int)).toNat = c.pools + z := by omega
        have hb1 : ((c.pools + z : Nat) : Int) < (c.words : Int) := by omega
        clear e1 e2 e3
        go_wp2
        go_region_held3 (fun w' => w'.cell? ⟨L, 21, none⟩ = some (.int .i64 (c.pools : Int))) (go_keep)
          (first | (go_at_call 78; (with_reducible refine (top_w _ (by omega) (by omega)).mono ?_); rintro e w' ⟨rfl, rfl⟩))
        go_wp2
        go_roundw
        case rel => exact ⟨0 + 1, by omega, by go_num, by rw [HI.out, ← initP_set]; exact set_same HQ.out _, (Keep.setCell HKK.out (.inr (Nat.le_refl _)) _).drew⟩
        case measure => simp [intOf]; omega
      | succ m =>
        obtain ⟨y, hy⟩ : ∃ y, c.hs[m]? = some y := ⟨_, List.getElem?_eq_getElem (by have : c.nT = c.hs.length := rfl; omega)⟩
        have cy := HCELL.out m _ (nums_at hy)
        have p0 : decide (0 < ((m : Int) + 1)) = true := decide_eq_true (by omega)
        by_cases hyx : y = z + 1
        · have he : ((y : Int) == ((z : Int) + 1)) = true := beq_iff_eq.2 (by omega)
          have hjw : c.links + m < c.words := by have : c.nT = c.hs.length := rfl; omega
          have HI := hid (show c.initP (m + 1 + 1) = (c.initP (m + 1)).set (c.links + m) (m + 1 + 1) by rw [initP_succ, if_pos ⟨by omega, by rw [Nat.add_sub_cancel, hy, hx, hyx]⟩]; rfl)
          obtain ⟨u, cz⟩ := HCZ.out _ hjw
          have fz := HFZ.out (c.links + m)
          clear hyx e1 e2 e3
          go_wp2
          go_roundw
          case rel => exact ⟨m + 1 + 1, by omega, by go_num, by rw [HI.out, ← initP_set]; exact set_same HQ.out _, Keep.setCell HKK.out (.inr (Nat.le_refl _)) _⟩
          case measure => simp [intOf]; omega
        · have he : ((y : Int) == ((z : Int) + 1)) = false := beq_eq_false_iff_ne.2 (by omega)
          have hjw : c.pools + z < c.words := by omega
          have HI := hid (show c.initP (m + 1 + 1) = (c.initP (m + 1)).set (c.pools + z) (m + 1 + 1) by rw [initP_succ, if_neg (fun h => hyx (by have h2 := h.2; rw [Nat.add_sub_cancel, hy, hx] at h2; exact Option.some.inj h2)), hx]; rfl)
          obtain ⟨u, cz⟩ := HCZ.out _ hjw
          have fz := HFZ.out (c.pools + z)
          have hw1 : IntKind.i64.wrap ((c.pools : Int) + ((z : Int) + 1)) = (c.pools : Int) + ((z : Int) + 1) := by rw [IntKind.wrap_i64]; omega
          have hw2 : IntKind.i64.wrap ((c.pools : Int) + ((z : Int) + 1) - 1) = ((c.pools + z : Nat) : Int) := by rw [IntKind.wrap_i64]; omega
          have hb0 : (c.pools : Int) + (z : Int) < (c.words : Int) := by omega
          have hb00 : (0 : Int) ≤ (c.pools : Int) + (z : Int) := by omega
          have htn : ((c.pools : Int) + (z : Int)).toNat = c.pools + z := by omega
          have hb1 : ((c.pools + z : Nat) : Int) < (c.words : Int) := by omega
          clear e1 e2 e3
          go_wp2
          go_region_held3 (fun w' => w'.cell? ⟨L, 21, none⟩ = some (.int .i64 (c.pools : Int))) (go_keep)
            (first | (go_at_call 78; (with_reducible refine (top_w _ (by omega) (by omega)).mono ?_); rintro e w' ⟨rfl, rfl⟩))
          go_wp2
          go_roundw
          case rel => exact ⟨m + 1 + 1, by omega, by go_num, by rw [HI.out, ← initP_set]; exact set_same HQ.out _, (Keep.setCell HKK.out (.inr (Nat.le_refl _)) _).drew⟩
          case measure => simp [intOf]; omega
    · have hkn : k = c.nT := by omega
      subst hkn
      go_wp2
      go_ret
      refine ⟨rfl, ?_, HKK.out⟩
      rw [HQ.out, c.initP_all HC.out]
end
end Go.Proofs.YtjghenomeindcaaGreat
