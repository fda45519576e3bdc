/- layout: contracts of its parts. -/
import Derived.Test.YtjghenomeindcaaGreatLayInit
import Derived.Test.YtjghenomeindcaaGreatDomOf
import Derived.Test.YtjghenomeindcaaGreatSliceNil
set_option linter.unusedVariables false
set_option linter.unusedSimpArgs false
namespace Go.Proofs.YtjghenomeindcaaGreat
open Go.RowKit Go.Lf
@[reducible] def cfgV (c : Cfg) (t1 t2 t3 t4 t5 t6 : Nat) (a : Option Addr) (cp : Nat) : Value :=
  .agg #[.int .i64 c.th, .int .i64 c.sl, .int .u8 c.eng, .int .i64 c.bk, .int .u8 c.d.k, .int .i64 c.d.n, .slice a c.d.cuts.length cp, .int .i64 t1, .int .i64 t2, .int .i64 t3, .int .i64 t4, .int .i64 t5, .int .i64 t6, .int .i64 c.lk, .int .i64 c.tr, .int .i64 c.ba]
section
variable {w : World}
theorem within_yes (n a b : Int) (h1 : a ≤ n) (h2 : n ≤ b) : Calls Tryz.prog 122 #[.int .i64 n, .int .i64 a, .int .i64 b] w fun e w' => e = .returned (.bool true) ∧ w = w' := by
  have d1 : decide (a ≤ n) = true := decide_eq_true h1
  have d2 : decide (n ≤ b) = true := decide_eq_true h2
  clear h1 h2
  go_enter Tryz.func122, Tryz.ntmps122
  go_wp2
  go_ret
  exact ⟨rfl, rfl⟩
theorem within_low (n a b : Int) (h1 : n < a) : Calls Tryz.prog 122 #[.int .i64 n, .int .i64 a, .int .i64 b] w fun e w' => e = .returned (.bool false) ∧ w = w' := by
  have d1 : decide (a ≤ n) = false := decide_eq_false (by omega)
  clear h1
  go_enter Tryz.func122, Tryz.ntmps122
  go_wp2
  go_ret
  exact ⟨rfl, rfl⟩
theorem within_high (n a b : Int) (h1 : a ≤ n) (h2 : b < n) : Calls Tryz.prog 122 #[.int .i64 n, .int .i64 a, .int .i64 b] w fun e w' => e = .returned (.bool false) ∧ w = w' := by
  have d1 : decide (a ≤ n) = true := decide_eq_true h1
  have d2 : decide (n ≤ b) = false := decide_eq_false (by omega)
  clear h1 h2
  go_enter Tryz.func122, Tryz.ntmps122
  go_wp2
  go_ret
  exact ⟨rfl, rfl⟩
set_option maxHeartbeats 2000000 in
theorem engine_ok (c : Cfg) (hc : c.ok) (t1 t2 t3 t4 t5 t6 : Nat) (a : Option Addr) (cp : Nat) : Calls Tryz.prog 72 #[cfgV c t1 t2 t3 t4 t5 t6 a cp] w fun e w' => e = .returned (.int .i64 (c.engW : Int)) ∧ Keep Nil w w' := by
  have h1 := hc.sl1
  have h2 := hc.sl2
  have hb : 0 ≤ (c.bk : Int) ∧ (c.bk : Int) ≤ 16 := by
    by_cases h : c.eng = 3
    · have := hc.bk3 h; omega
    · have := hc.bk0 h; omega
  have he := hc.eng
  have HE := hid (show c.engW = if c.eng = 1 then c.sl else if c.eng = 2 then 2 * c.sl else 4 * c.bk from rfl)
  clear hc
  unfold cfgV
  obtain ⟨th, sl, eng, bk, d, tw, lk, tr, ba⟩ := c
  simp only at *
  generalize Cfg.engW _ = ew at *
  obtain ⟨b0, b1⟩ := hb
  rcases he with rfl | rfl | rfl
  · have e : (ew : Int) = sl := by have := HE.out; simp at this; omega
    rw [e]
    clear e HE
    go_enter Tryz.func72, Tryz.ntmps72
    go_wp2
    go_ret
    exact ⟨rfl, ((Keep.refl Nil w).alloc _).alloc _⟩
  · have e : (ew : Int) = 2 * sl := by have := HE.out; simp at this; omega
    rw [e]
    clear e HE
    go_enter Tryz.func72, Tryz.ntmps72
    go_wp2
    go_ret
    exact ⟨rfl, ((Keep.refl Nil w).alloc _).alloc _⟩
  · have e : (ew : Int) = 4 * bk := by have := HE.out; simp at this; omega
    rw [e]
    clear e HE
    go_enter Tryz.func72, Tryz.ntmps72
    go_wp2
    go_ret
    exact ⟨rfl, ((Keep.refl Nil w).alloc _).alloc _⟩
theorem empty_rowL (w : World) (e : TypeId) (size : Nat) : (w.alloc (.cells #[] e)).ownsRow 0 e size (.slice (some ⟨w.heap.size, 0, none⟩) 0 0) 0 [] :=
  ⟨by simp, .inr ⟨_, 0, #[], rfl, Nat.zero_le _, heap_alloc_new w _, Nat.le_refl _, Nat.zero_le _, by simp, by simp⟩⟩
theorem infoU64L : (Tryz.prog.info? 54).map (fun i => (i.zero, i.size, i.bytes)) = some (some (.int .u64 0), 1, 8) := by kernel_rfl
theorem cl_some (w : World) (ad : Addr) (n c : Nat) : (binOp .eql 37 (.slice (some ad) n c) (.slice none 0 0)).run Tryz.prog w = .ok (.bool false) w := run_eql_some w Tryz.underlying37 ad n c
theorem cl_none (w : World) (n c : Nat) : (binOp .eql 37 (.slice none n c) (.slice none 0 0)).run Tryz.prog w = .ok (.bool true) w := run_eql_none w Tryz.underlying37 n c
attribute [local go_sem] cl_some cl_none
def CloneTo (w : World) (l : List Int) (e : Ending) (w' : World) : Prop := ∃ a c, e = .returned (.slice a l.length c) ∧ Rd w' 1 (.slice a l.length c) l.length (u64s l) ∧ Keep Nil w w' ∧ ∀ k, (Value.slice a l.length c).ownBlock = some k → w.heap.size ≤ k ∧ k < w'.heap.size
set_option maxRecDepth 100000 in
set_option maxHeartbeats 2000000 in
theorem clone_ok (l : List Int) (a : Option Addr) (c : Nat) (hrd : Rd w 1 (.slice a l.length c) l.length (u64s l)) (hm : l.length ≤ 1000000) : Calls Tryz.prog 69 #[.slice a l.length c] w (CloneTo w l) := by
  have HRD := hid hrd
  cases a with
  | none =>
    obtain ⟨h0, rfl⟩ : l.length = 0 ∧ c = 0 := by
      obtain ⟨a', c', hv, hl, h⟩ := hrd
      simp only [Value.slice.injEq] at hv
      obtain ⟨rfl, -, rfl⟩ := hv
      rcases h with ⟨-, h1, h2⟩ | ⟨b, off, h1, -⟩ | ⟨⟨ad, h1⟩, -⟩
      · exact ⟨h1, h2⟩
      · cases h1
      · cases h1
    have hl : l = [] := List.eq_nil_of_length_eq_zero h0
    subst hl
    clear hrd h0 hm
    go_enter Tryz.func69, Tryz.ntmps69
    go_wp2
    go_ret
    exact ⟨none, 0, rfl, HRD.out, Keep.refl _ _, fun k hk => by simp [Value.ownBlock] at hk⟩
  | some ad =>
    clear hrd
    go_enter Tryz.func69, Tryz.ntmps69
    go_wp2_with (at_builtin; refine wpList_app _ rfl (.tmp 5) (.tmp 6) 37 rfl 54 _ 1 8 Tryz.underlying37 infoU64L rfl (by decide) (.slice (some ⟨w.heap.size, 0, none⟩) 0 0) 0 [] rfl ?own (.slice (some ad) l.length c) l.length (u64s l) rfl ?rd ?one ?byt ?len ?_)
    case own => exact empty_rowL _ _ _
    case rd => exact rd_keep HRD.out (Keep.alloc (Keep.refl Nil _) _) (fun _ _ h => h)
    case one => exact u64s_one _
    case byt => omega
    case len => unfold maxLen; omega
    intro a' c' w1 ho hg hs
    have k2 : Keep Nil w w1 := Keep.grown (Keep.alloc (Keep.refl _ _) _) hg (fun j hj => .inr (by simp [Value.ownBlock] at hj; omega))
    have R2 := hid (row_rd ho)
    have K2 := hid k2
    have S2 := hid (show ∀ k, (Value.slice a' l.length c').ownBlock = some k → w.heap.size ≤ k ∧ k < w1.heap.size from fun k hk => by
      refine ⟨?_, (ho.lt k (by simpa using hk)).2⟩
      rcases hs k hk with h | h
      · simp [Value.ownBlock] at h; omega
      · simp at h; omega)
    clear ho hg hs k2
    go_wp2
    go_ret
    exact ⟨a', c', rfl, R2.out, K2.out, S2.out⟩
theorem ix0 (x0 x1 x2 x3 x4 x5 : Value) (W : World) : (Instr.index 40 (.agg #[x0, x1, x2, x3, x4, x5]) (.int .i64 0)).run Tryz.prog W = .ok x0 W := by kernel_rfl
theorem ix1 (x0 x1 x2 x3 x4 x5 : Value) (W : World) : (Instr.index 40 (.agg #[x0, x1, x2, x3, x4, x5]) (.int .i64 1)).run Tryz.prog W = .ok x1 W := by kernel_rfl
theorem ix2 (x0 x1 x2 x3 x4 x5 : Value) (W : World) : (Instr.index 40 (.agg #[x0, x1, x2, x3, x4, x5]) (.int .i64 2)).run Tryz.prog W = .ok x2 W := by kernel_rfl
theorem ix3 (x0 x1 x2 x3 x4 x5 : Value) (W : World) : (Instr.index 40 (.agg #[x0, x1, x2, x3, x4, x5]) (.int .i64 3)).run Tryz.prog W = .ok x3 W := by kernel_rfl
theorem ix4 (x0 x1 x2 x3 x4 x5 : Value) (W : World) : (Instr.index 40 (.agg #[x0, x1, x2, x3, x4, x5]) (.int .i64 4)).run Tryz.prog W = .ok x4 W := by kernel_rfl
theorem ix5 (x0 x1 x2 x3 x4 x5 : Value) (W : World) : (Instr.index 40 (.agg #[x0, x1, x2, x3, x4, x5]) (.int .i64 5)).run Tryz.prog W = .ok x5 W := by kernel_rfl
attribute [local go_sem] ix0 ix1 ix2 ix3 ix4 ix5
theorem box16 {w1 : World} {x0 x1 x2 x3 x4 x5 x6 x7 x8 x9 x10 x11 x12 x13 x14 x15 : Value} {t : TypeId} (hk : Keep Nil (w.alloc (.cells #[x0, x1, x2, x3, x4, x5, x6, x7, x8, x9, x10, x11, x12, x13, x14, x15] t (0, 0))) w1) : w1.cell? ⟨w.heap.size, 13, none⟩ = some x13 ∧ w1.cell? ⟨w.heap.size, 14, none⟩ = some x14 ∧ w1.cell? ⟨w.heap.size, 15, none⟩ = some x15 :=
  have h := hk.at (heap_alloc_new w _) (fun h => h)
  by refine ⟨?_, ?_, ?_⟩ <;> (rw [cell_of h]; rfl)
set_option maxRecDepth 100000 in
set_option maxHeartbeats 4000000 in
theorem lcheck_ok (c : Cfg) (hc : c.ok) (t1 t2 t3 t4 t5 t6 : Nat) (htw : c.tw = [t1, t2, t3, t4, t5, t6]) (a : Option Addr) (cp : Nat) (hrd : Rd w 1 (.slice a c.d.cuts.length cp) c.d.cuts.length (u64s c.d.cuts)) : Calls Tryz.prog 68 #[cfgV c t1 t2 t3 t4 t5 t6 a cp] w fun e w' => e = .returned (.int .i64 0) ∧ Keep Nil w w' := by
  have hsum := hc.tw
  rw [htw] at hsum
  simp only [List.sum_cons, List.sum_nil] at hsum
  have HC := hid hc
  have HRD := hid hrd
  have HD := hid (Dom.err_ok hc.d)
  have hb := hc.eng
  clear hrd hc
  have l1 : decide ((t1 : Int) < 0) = false := decide_eq_false (by omega)
  have l2 : decide ((t2 : Int) < 0) = false := decide_eq_false (by omega)
  have l3 : decide ((t3 : Int) < 0) = false := decide_eq_false (by omega)
  have l4 : decide ((t4 : Int) < 0) = false := decide_eq_false (by omega)
  have l5 : decide ((t5 : Int) < 0) = false := decide_eq_false (by omega)
  have l6 : decide ((t6 : Int) < 0) = false := decide_eq_false (by omega)
  have g1 : decide (1024 < (t1 : Int)) = false := decide_eq_false (by omega)
  have g2 : decide (1024 - (t1 : Int) < (t2 : Int)) = false := decide_eq_false (by omega)
  have g3 : decide (1024 - (t1 : Int) - t2 < (t3 : Int)) = false := decide_eq_false (by omega)
  have g4 : decide (1024 - (t1 : Int) - t2 - t3 < (t4 : Int)) = false := decide_eq_false (by omega)
  have g5 : decide (1024 - (t1 : Int) - t2 - t3 - t4 < (t5 : Int)) = false := decide_eq_false (by omega)
  have g6 : decide (1024 - (t1 : Int) - t2 - t3 - t4 - t5 < (t6 : Int)) = false := decide_eq_false (by omega)
  unfold cfgV
  have HM := hid (show c.d.cuts.length ≤ 1000000 by
    rcases HC.out.d with ⟨_, _, h⟩ | ⟨_, _, h⟩ | ⟨_, _, h, _⟩
    · rw [h]; decide
    · rw [h]; decide
    · omega)
  rcases hb with hb | hb | hb
  · have e0 : ((c.bk : Int) == 0) = true := beq_iff_eq.2 (by have := HC.out.bk0 (by omega); omega)
    rw [hb]
    clear hb
    go_enter Tryz.func68, Tryz.ntmps68
    go_wp2_with fail
    refine wp_loop_rounds 7 ?_; repeat any_goals (rw [rounds_succ]; go_wp2_with fail)
    refine (within_yes _ _ _ HC.out.th1 HC.out.th2).mono ?_
    rintro e w' ⟨rfl, rfl⟩
    go_wp2_with fail
    refine (within_yes _ _ _ (by have := HC.out.sl1; omega) (by have := HC.out.sl2; omega)).mono ?_
    rintro e w' ⟨rfl, rfl⟩
    go_wp2_with fail
    refine (dcheck_any c.d (rd_keep HRD.out ((Keep.refl Nil w).alloc _) (fun _ _ h => h)) HM.out).mono ?_
    rw [HD.out]
    rintro e w2 ⟨rfl, hk⟩
    obtain ⟨c13, c14, c15⟩ := box16 hk
    have HK := hid (((Keep.refl Nil w).alloc _).trans hk (fun _ _ h => h))
    clear hk
    go_wp2_with fail
    refine (within_yes _ _ _ (by have := HC.out.lk1; omega) (by have := HC.out.lk2; omega)).mono ?_
    rintro e w' ⟨rfl, rfl⟩
    go_wp2_with fail
    refine (within_yes _ _ _ HC.out.tr1 HC.out.tr2).mono ?_
    rintro e w' ⟨rfl, rfl⟩
    go_wp2_with fail
    refine (within_yes _ _ _ HC.out.ba1 HC.out.ba2).mono ?_
    rintro e w' ⟨rfl, rfl⟩
    go_wp2
    go_ret
    exact ⟨rfl, HK.out⟩
  · have e0 : ((c.bk : Int) == 0) = true := beq_iff_eq.2 (by have := HC.out.bk0 (by omega); omega)
    rw [hb]
    clear hb
    go_enter Tryz.func68, Tryz.ntmps68
    go_wp2_with fail
    refine wp_loop_rounds 7 ?_; repeat any_goals (rw [rounds_succ]; go_wp2_with fail)
    refine (within_yes _ _ _ HC.out.th1 HC.out.th2).mono ?_
    rintro e w' ⟨rfl, rfl⟩
    go_wp2_with fail
    refine (within_yes _ _ _ (by have := HC.out.sl1; omega) (by have := HC.out.sl2; omega)).mono ?_
    rintro e w' ⟨rfl, rfl⟩
    go_wp2_with fail
    refine (dcheck_any c.d (rd_keep HRD.out ((Keep.refl Nil w).alloc _) (fun _ _ h => h)) HM.out).mono ?_
    rw [HD.out]
    rintro e w2 ⟨rfl, hk⟩
    obtain ⟨c13, c14, c15⟩ := box16 hk
    have HK := hid (((Keep.refl Nil w).alloc _).trans hk (fun _ _ h => h))
    clear hk
    go_wp2_with fail
    refine (within_yes _ _ _ (by have := HC.out.lk1; omega) (by have := HC.out.lk2; omega)).mono ?_
    rintro e w' ⟨rfl, rfl⟩
    go_wp2_with fail
    refine (within_yes _ _ _ HC.out.tr1 HC.out.tr2).mono ?_
    rintro e w' ⟨rfl, rfl⟩
    go_wp2_with fail
    refine (within_yes _ _ _ HC.out.ba1 HC.out.ba2).mono ?_
    rintro e w' ⟨rfl, rfl⟩
    go_wp2
    go_ret
    exact ⟨rfl, HK.out⟩
  · have HB3 := hid (show 1 ≤ (c.bk : Int) ∧ (c.bk : Int) ≤ 16 by have := HC.out.bk3 hb; omega)
    have e0 : ((c.bk : Int) == 0) = false := beq_eq_false_iff_ne.2 (by have := HB3.out; omega)
    rw [hb]
    clear hb
    go_enter Tryz.func68, Tryz.ntmps68
    go_wp2_with fail
    refine (within_yes _ _ _ HB3.out.1 HB3.out.2).mono ?_
    rintro e w' ⟨rfl, rfl⟩
    go_wp2_with fail
    refine wp_loop_rounds 7 ?_; repeat any_goals (rw [rounds_succ]; go_wp2_with fail)
    refine (within_yes _ _ _ HC.out.th1 HC.out.th2).mono ?_
    rintro e w' ⟨rfl, rfl⟩
    go_wp2_with fail
    refine (within_yes _ _ _ (by have := HC.out.sl1; omega) (by have := HC.out.sl2; omega)).mono ?_
    rintro e w' ⟨rfl, rfl⟩
    go_wp2_with fail
    refine (dcheck_any c.d (rd_keep HRD.out ((Keep.refl Nil w).alloc _) (fun _ _ h => h)) HM.out).mono ?_
    rw [HD.out]
    rintro e w2 ⟨rfl, hk⟩
    obtain ⟨c13, c14, c15⟩ := box16 hk
    have HK := hid (((Keep.refl Nil w).alloc _).trans hk (fun _ _ h => h))
    clear hk
    go_wp2_with fail
    refine (within_yes _ _ _ (by have := HC.out.lk1; omega) (by have := HC.out.lk2; omega)).mono ?_
    rintro e w' ⟨rfl, rfl⟩
    go_wp2_with fail
    refine (within_yes _ _ _ HC.out.tr1 HC.out.tr2).mono ?_
    rintro e w' ⟨rfl, rfl⟩
    go_wp2_with fail
    refine (within_yes _ _ _ HC.out.ba1 HC.out.ba2).mono ?_
    rintro e w' ⟨rfl, rfl⟩
    go_wp2
    go_ret
    exact ⟨rfl, HK.out⟩
end
end Go.Proofs.YtjghenomeindcaaGreat
