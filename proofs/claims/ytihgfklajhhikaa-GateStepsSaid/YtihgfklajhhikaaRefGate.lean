/- leapfrogref18: the methods of its engine: contracts. -/
import Derived.Test.YtihgfklajhhikaaGateSt
import Derived.Test.YtihgfklajhhikaaFits
import Derived.Test.YtihgfklajhhikaaBkt
import Derived.Test.YtihgfklajhhikaaGate1
import Derived.Deep.RegionHeld3
import Derived.StillTailTactics
import Derived.BigQuiet
set_option linter.unusedVariables false
set_option linter.unusedSimpArgs false
namespace Go.Lf
/-- The errors of entering a section. -/
def gckE (t s v : Int) (b : Bool) : Int := if t < 0 ∨ 64 ≤ t then 2 else if s < 0 ∨ 64 ≤ s then 3 else if v < 0 ∨ 64 ≤ v then 2 else if b then 8 else 0
/-- A slot of the reference. -/
structure RSl where
  bg : Bool
  th : Bool
  b : Nat
  sd : Nat
def RSl.cells (x : RSl) : List Value := [.bool x.bg, .bool x.th, .int .i64 x.b, .int .u64 x.sd]
def GSl.r (x : GSl) : RSl := ⟨x.ph != 0, x.ph == 3, x.b, x.sd⟩
end Go.Lf
namespace Go.Proofs.Ytihgfklajhhikaa
open Go.RowKit Go.Lf
abbrev rptr (b : Nat) : Value := .pointer (some ⟨b, 0, none⟩)
def rgCells (rb : Nat) (base : Int) (n : Nat) (sl : List RSl) : List Value := [rptr rb, .int .i64 base, .int .i64 n] ++ sl.flatMap RSl.cells
structure RGEngAt (w : World) (h rb : Nat) (base : Int) (n : Nat) (sl : List RSl) : Prop where
  head : w.heap[h]? = some (.cells (rgCells rb base n sl).toArray 150 (0, 0))
  len : sl.length = 64
/-- The reference's engine and its memory. -/
structure RGSys (w : World) (h rb : Nat) (G : Nat → Prop) (base : Int) (n : Nat) (sl : List RSl) (ws : List Int) (log : List Acc) : Prop where
  mem : RefAt w rb G ws log
  eng : RGEngAt w h rb base n sl
  fh : ¬ G h
def RGEntAt (w : World) (eb h : Nat) (t : Int) (s : Nat) (pc : Int) : Prop := w.heap[eb]? = some (.cells #[rptr h, .int .i64 t, .int .i64 s, .int .u8 pc] 209 (0, 0))
def RGWaitAt (w : World) (wb h : Nat) (t : Int) (lv : Value) (side : Nat) (tu : Bool) (pc : Int) : Prop := w.heap[wb]? = some (.cells #[rptr h, .int .i64 t, lv, .int .u64 side, .bool tu, .int .u8 pc] 214 (0, 0))
section
variable {w w' : World} {h rb eb wb : Nat} {G : Nat → Prop} {base : Int} {n : Nat} {sl : List RSl} {ws : List Int} {log : List Acc} {t : Int} {s : Nat}
theorem gtype_ne' {w : World} {b c : Nat} {x y : Array Value} {s t : TypeId} (h : w.heap[b]? = some (.cells x s (0, 0))) (k : w.heap[c]? = some (.cells y t (0, 0))) (hst : s ≠ t) : b ≠ c := by
  rintro rfl
  rw [h] at k
  simp only [Option.some.injEq, Obj.cells.injEq] at k
  exact hst k.2.1
theorem RGEngAt.keep {S : Nat → Prop} (he : RGEngAt w h rb base n sl) (hk : Keep S w w') (h1 : ¬ S h) : RGEngAt w' h rb base n sl := ⟨hk.at he.head h1, he.len⟩
theorem RGEngAt.quiet (he : RGEngAt w h rb base n sl) (hk : Keep Nil w w') : RGEngAt w' h rb base n sl := he.keep hk (fun h => h)
theorem RGSys.quiet (he : RGSys w h rb G base n sl ws log) (hk : Keep Nil w w') : RGSys w' h rb G base n sl ws log := ⟨he.mem.keep hk (fun _ _ h => h), he.eng.quiet hk, he.fh⟩
theorem RGEngAt.top (he : RGEngAt w h rb base n sl) : w.cell? ⟨h, 0, none⟩ = some (rptr rb) ∧ w.cell? ⟨h, 1, none⟩ = some (.int .i64 base) ∧ w.cell? ⟨h, 2, none⟩ = some (.int .i64 n) := by
  refine ⟨?_, ?_, ?_⟩ <;> (rw [cell_of he.head]; simp [rgCells])
theorem RGEngAt.slotC (he : RGEngAt w h rb base n sl) {x : RSl} (hx : sl[s]? = some x) {j : Nat} (hj : j < 4) : w.cell? ⟨h, 3 + s * 4 + j, none⟩ = x.cells[j]? := by
  rw [cell_of he.head]
  have := flatn_at RSl.cells 4 (fun _ => rfl) sl hx hj
  rw [← this]
  show (rgCells rb base n sl).toArray[3 + s * 4 + j]? = _
  rw [List.getElem?_toArray, rgCells, List.getElem?_append_right (by simp; omega)]
  congr 1
  simp; omega
theorem RGEngAt.slot (he : RGEngAt w h rb base n sl) {x : RSl} (hx : sl[s]? = some x) : w.cell? ⟨h, 3 + s * 4, none⟩ = some (.bool x.bg) ∧ w.cell? ⟨h, 3 + s * 4 + 1, none⟩ = some (.bool x.th) ∧ w.cell? ⟨h, 3 + s * 4 + 2, none⟩ = some (.int .i64 x.b) ∧ w.cell? ⟨h, 3 + s * 4 + 3, none⟩ = some (.int .u64 x.sd) :=
  ⟨he.slotC hx (j := 0) (by decide), he.slotC hx (j := 1) (by decide), he.slotC hx (j := 2) (by decide), he.slotC hx (j := 3) (by decide)⟩
theorem RGEngAt.free (he : RGEngAt w h rb base n sl) (j : Nat) : w.frozen? ⟨h, j, none⟩ = false := free_of he.head j
theorem RGEngAt.set (he : RGEngAt w h rb base n sl) {x : RSl} (hx : sl[s]? = some x) (x' : RSl) {j : Nat} (hj : j < 4) (u : Value) (hu : x'.cells = x.cells.set j u) : RGEngAt (w.setCell ⟨h, 3 + s * 4 + j, none⟩ u) h rb base n (sl.set s x') := by
  refine ⟨?_, by simp [he.len]⟩
  rw [set_same he.head]
  have hf := flatn_set RSl.cells 4 (fun _ => rfl) sl hx hj _ hu
  have : (rgCells rb base n sl).set (3 + s * 4 + j) u = rgCells rb base n (sl.set s x') := by
    unfold rgCells
    rw [List.set_append_right _ _ (by simp; omega), ← hf]
    congr 2
    simp; omega
  rw [← this]
  simp
theorem RGEntAt.cells {pc : Int} (he : RGEntAt w eb h t s pc) : w.cell? ⟨eb, 0, none⟩ = some (rptr h) ∧ w.cell? ⟨eb, 1, none⟩ = some (.int .i64 t) ∧ w.cell? ⟨eb, 2, none⟩ = some (.int .i64 s) ∧ w.cell? ⟨eb, 3, none⟩ = some (.int .u8 pc) := by
  refine ⟨?_, ?_, ?_, ?_⟩ <;> (rw [cell_of he]; rfl)
theorem RGWaitAt.cells {lv : Value} {side : Nat} {tu : Bool} {pc : Int} (he : RGWaitAt w wb h t lv side tu pc) : w.cell? ⟨wb, 0, none⟩ = some (rptr h) ∧ w.cell? ⟨wb, 1, none⟩ = some (.int .i64 t) ∧ w.cell? ⟨wb, 2, none⟩ = some lv ∧ w.cell? ⟨wb, 3, none⟩ = some (.int .u64 side) ∧ w.cell? ⟨wb, 4, none⟩ = some (.bool tu) ∧ w.cell? ⟨wb, 5, none⟩ = some (.int .u8 pc) := by
  refine ⟨?_, ?_, ?_, ?_, ?_, ?_⟩ <;> (rw [cell_of he]; rfl)

/-! at. -/
set_option maxHeartbeats 1000000 in
theorem rgat_any (b : Nat) (k : Int) (hc : w.cell? ⟨h, 1, none⟩ = some (.int .i64 base)) (b0 : 0 ≤ base) (b1 : base < 1000000) (hb : b < 1000) (hk : 0 ≤ k ∧ k < 1000) : Calls Try.prog 101 #[rptr h, .int .i64 b, .int .i64 k] w fun e w' => e = .returned (.int .i64 (base + 4 * b + k)) ∧ w = w' := by
  have e1 : IntKind.i64.wrap (4 * (b : Int)) = 4 * b := by rw [IntKind.wrap_i64]; omega
  have e2 : IntKind.i64.wrap (base + 4 * (b : Int)) = base + 4 * b := by rw [IntKind.wrap_i64]; omega
  have e3 : IntKind.i64.wrap (base + 4 * (b : Int) + k) = base + 4 * b + k := by rw [IntKind.wrap_i64]; omega
  go_enter Try.func101, Try.ntmps101
  go_wp2
  go_ret
  exact ⟨rfl, rfl⟩

/-! Check. -/
set_option maxHeartbeats 1000000 in
theorem rgck_any (t s v : Int) (b : Bool) : Calls Try.prog 79 #[.int .i64 t, .int .i64 s, .int .i64 v, .int .i64 64, .bool b] w fun e w' => e = .returned (.int .i64 (gckE t s v b)) ∧ w = w' := by
  by_cases ht : t < 0 ∨ 64 ≤ t
  · rw [show gckE t s v b = 2 from if_pos ht]
    have HT := hid (thread_no t ht w)
    clear ht
    go_enter Try.func79, Try.ntmps79
    go_wp2_with fail
    refine HT.out.mono ?_
    rintro e w' ⟨rfl, rfl⟩
    go_wp2
    go_ret
    exact ⟨rfl, rfl⟩
  have HT := hid (thread_yes t (by omega) (by omega) w)
  have e0 : gckE t s v b = if s < 0 ∨ 64 ≤ s then 3 else if v < 0 ∨ 64 ≤ v then 2 else if b then 8 else 0 := if_neg ht
  clear ht
  by_cases hs : s < 0 ∨ 64 ≤ s
  · rw [e0, if_pos hs]
    clear e0
    by_cases h1 : s < 0
    · have d1 : decide (s < 0) = true := decide_eq_true h1
      clear hs h1
      go_enter Try.func79, Try.ntmps79
      go_wp2_with fail
      refine HT.out.mono ?_
      rintro e w' ⟨rfl, rfl⟩
      go_wp2
      go_ret
      exact ⟨rfl, rfl⟩
    · have d1 : decide (s < 0) = false := decide_eq_false h1
      have d2 : decide (64 ≤ s) = true := decide_eq_true (by omega)
      clear hs h1
      go_enter Try.func79, Try.ntmps79
      go_wp2_with fail
      refine HT.out.mono ?_
      rintro e w' ⟨rfl, rfl⟩
      go_wp2
      go_ret
      exact ⟨rfl, rfl⟩
  have d1 : decide (s < 0) = false := decide_eq_false (by omega)
  have d2 : decide (64 ≤ s) = false := decide_eq_false (by omega)
  rw [e0, if_neg hs]
  clear e0 hs
  by_cases hv : v < 0 ∨ 64 ≤ v
  · rw [if_pos hv]
    by_cases h1 : v < 0
    · have d3 : decide (v < 0) = true := decide_eq_true h1
      clear hv h1
      go_enter Try.func79, Try.ntmps79
      go_wp2_with fail
      refine HT.out.mono ?_
      rintro e w' ⟨rfl, rfl⟩
      go_wp2
      go_ret
      exact ⟨rfl, rfl⟩
    · have d3 : decide (v < 0) = false := decide_eq_false h1
      have d4 : decide (64 ≤ v) = true := decide_eq_true (by omega)
      clear hv h1
      go_enter Try.func79, Try.ntmps79
      go_wp2_with fail
      refine HT.out.mono ?_
      rintro e w' ⟨rfl, rfl⟩
      go_wp2
      go_ret
      exact ⟨rfl, rfl⟩
  have d3 : decide (v < 0) = false := decide_eq_false (by omega)
  have d4 : decide (64 ≤ v) = false := decide_eq_false (by omega)
  rw [if_neg hv]
  clear hv
  cases b
  all_goals
    go_enter Try.func79, Try.ntmps79
    go_wp2_with fail
    refine HT.out.mono ?_
    rintro e w' ⟨rfl, rfl⟩
    go_wp2
    go_ret
    exact ⟨rfl, rfl⟩

/-! New. -/
def RGNew18 (w : World) (rb : Nat) (base : Int) (n : Nat) (e : Ending) (w' : World) : Prop :=
  ∃ h, e = .returned (.tuple #[rptr h, .int .i64 0]) ∧ RGEngAt w' h rb base n (List.replicate 64 ⟨false, false, 0, 0⟩) ∧ Keep Nil w w' ∧ w.heap.size ≤ h
set_option maxRecDepth 100000 in
set_option maxHeartbeats 2000000 in
theorem rgnew18_ok (h : RefAt w rb G ws log) (hl : ws.length ≤ 65536) (base : Int) (n : Nat) (he : pErr 4 16 base n ws.length = 0) :
    Calls Try.prog 20 #[rptr rb, .int .i64 base, .int .i64 n] w (RGNew18 w rb base n) := by
  obtain ⟨n0, n1, b0, b1⟩ := pErr_zero he
  have HF := hid (fits_ok h base (4 * n) (by omega) (by omega) b0 b1)
  have HW := hid (@rgwords_ok w n ⟨n0, n1⟩)
  clear h he hl b1
  go_enter Try.func20, Try.ntmps20
  go_wp2_with fail
  refine HW.out.mono ?_
  rintro e w' ⟨rfl, rfl⟩
  go_wp2_with fail
  refine HF.out.mono ?_
  rintro e w' ⟨rfl, rfl⟩
  go_wp2
  go_ret2
  exact ⟨w.heap.size, rfl, ⟨heap_alloc_new w (.cells (rgCells rb base n (List.replicate 64 ⟨false, false, 0, 0⟩)).toArray 150), by simp⟩, (Keep.refl Nil w).alloc _, Nat.le_refl _⟩
end
end Go.Proofs.Ytihgfklajhhikaa

/-! leapfrogref18: Enter, its steps, Exit, Wait, Open: contracts. -/
set_option linter.unusedVariables false
set_option linter.unusedSimpArgs false
namespace Go.Proofs.Ytihgfklajhhikaa
open Go.RowKit Go.Lf
section
variable {w w' : World} {h rb eb wb : Nat} {G : Nat → Prop} {base : Int} {n : Nat} {sl : List RSl} {ws : List Int} {log : List Acc} {t : Int} {s : Nat}
/-! Enter. -/
set_option maxHeartbeats 2000000 in
theorem rgenter_out (he : RGEngAt w h rb base n sl) (t s0 v : Int) (hs : s0 < 0 ∨ 64 ≤ s0) :
    Calls Try.prog 59 #[rptr h, .int .i64 t, .int .i64 s0, .int .i64 v] w fun e w' => e = .returned (.tuple #[.pointer none, .int .i64 (gckE t s0 v false)]) ∧ w = w' := by
  have HC := hid (@rgck_any w t s0 v false)
  have hne : gckE t s0 v false ≠ 0 := by
    unfold gckE; split
    · decide
    · first | decide | (rw [if_pos hs]; decide)
  obtain ⟨e0, he0⟩ : ∃ e0, e0 = gckE t s0 v false := ⟨_, rfl⟩
  rw [← he0] at HC hne ⊢
  have d9 : (e0 != 0) = true := bne_iff_ne.2 hne
  clear he he0 hne
  by_cases h1 : s0 < 0
  · have d1 : decide (0 ≤ s0) = false := decide_eq_false (by omega)
    clear hs h1
    go_enter Try.func59, Try.ntmps59
    go_wp2_with fail
    refine HC.out.mono ?_
    rintro e w' ⟨rfl, rfl⟩
    go_wp2
    go_ret2
    exact ⟨rfl, rfl⟩
  · have d1 : decide (0 ≤ s0) = true := decide_eq_true (by omega)
    have d2 : decide (s0 < 64) = false := decide_eq_false (by omega)
    clear hs h1
    go_enter Try.func59, Try.ntmps59
    go_wp2_with fail
    refine HC.out.mono ?_
    rintro e w' ⟨rfl, rfl⟩
    go_wp2
    go_ret2
    exact ⟨rfl, rfl⟩
set_option maxHeartbeats 2000000 in
theorem rgenter_err (he : RGEngAt w h rb base n sl) (t v : Int) {x : RSl} (hx : sl[s]? = some x) (hne : gckE t s v x.bg ≠ 0) :
    Calls Try.prog 59 #[rptr h, .int .i64 t, .int .i64 s, .int .i64 v] w fun e w' => e = .returned (.tuple #[.pointer none, .int .i64 (gckE t s v x.bg)]) ∧ w = w' := by
  have l0 := lt_of_at hx
  rw [he.len] at l0
  have s1 := (he.slot hx).1
  obtain ⟨bg, hbg⟩ : ∃ bg, bg = x.bg := ⟨_, rfl⟩
  rw [← hbg] at s1 hne ⊢
  have HC := hid (@rgck_any w t s v bg)
  obtain ⟨e0, he0⟩ : ∃ e0, e0 = gckE t s v bg := ⟨_, rfl⟩
  rw [← he0] at HC hne ⊢
  have d9 : (e0 != 0) = true := bne_iff_ne.2 hne
  have d1 : decide (0 ≤ (s : Int)) = true := decide_eq_true (by omega)
  have d2 : decide ((s : Int) < 64) = true := decide_eq_true (by omega)
  have z0 : (0 : Int) ≤ (s : Int) := by omega
  have z1 : (s : Int) < 64 := by omega
  clear he hx he0 hne hbg
  go_enter Try.func59, Try.ntmps59
  go_wp2_with fail
  refine HC.out.mono ?_
  rintro e w' ⟨rfl, rfl⟩
  go_wp2
  go_ret2
  exact ⟨rfl, rfl⟩
def RGEnterTo (w : World) (h rb : Nat) (base : Int) (n : Nat) (sl : List RSl) (t : Int) (s : Nat) (e : Ending) (w' : World) : Prop :=
  ∃ eb, e = .returned (.tuple #[rptr eb, .int .i64 0]) ∧ RGEngAt w' h rb base n sl ∧ RGEntAt w' eb h t s 15 ∧ Keep (fun k => k = h) w w' ∧ w.heap.size ≤ eb
set_option maxRecDepth 100000 in
set_option maxHeartbeats 4000000 in
theorem rgenter_ok (he : RGEngAt w h rb base n sl) (t : Int) (v : Nat) {x : RSl} (hx : sl[s]? = some x) (hne : gckE t s v x.bg = 0) (n0 : 1 ≤ n) (n1 : n ≤ 16) (hv : v < 64) :
    Calls Try.prog 59 #[rptr h, .int .i64 t, .int .i64 s, .int .i64 v] w (RGEnterTo w h rb base n (sl.set s ⟨true, x.th, v % n, x.sd⟩) t s) := by
  have l0 := lt_of_at hx
  rw [he.len] at l0
  have s1 := (he.slot hx).1
  have c2 := he.top.2.2
  obtain ⟨bg, hbg⟩ : ∃ bg, bg = x.bg := ⟨_, rfl⟩
  rw [← hbg] at s1 hne
  have HC := hid (@rgck_any w t s v bg)
  rw [hne] at HC
  have d1 : decide (0 ≤ (s : Int)) = true := decide_eq_true (by omega)
  have d2 : decide ((s : Int) < 64) = true := decide_eq_true (by omega)
  have z0 : (0 : Int) ≤ (s : Int) := by omega
  have z1 : (s : Int) < 64 := by omega
  have dn : ((n : Int) == 0) = false := beq_eq_false_iff_ne.2 (by omega)
  have ev : IntKind.i64.wrap ((v : Int).tmod n) = (v : Int).tmod n := by
    have := Nat.mod_le v n
    rw [Int.tmod_eq_emod_of_nonneg (Int.natCast_nonneg _), ← Int.natCast_emod, IntKind.wrap_i64]
    omega
  have zf := he.free (3 + s * 4)
  have p1 := he.set hx ⟨true, x.th, x.b, x.sd⟩ (j := 0) (by decide) (.bool true) rfl
  simp only [Nat.add_zero] at p1
  obtain ⟨W, hW⟩ : ∃ W, W = w.setCell ⟨h, 3 + s * 4, none⟩ (.bool true) := ⟨_, rfl⟩
  rw [← hW] at p1
  have kW : Keep (fun k => k = h) w W := by rw [hW]; exact Keep.setCell (Keep.refl (fun k => k = h) w) (.inl rfl) _
  have q2 := (p1.slot (put_self hx _)).2.2.1
  have r2 := p1.top.2.2
  have zf2 := p1.free (3 + s * 4 + 2)
  have p2 := p1.set (put_self hx _) ⟨true, x.th, v % n, x.sd⟩ (j := 2) (by decide) (.int .i64 ((v % n : Nat) : Int)) rfl
  rw [List.set_set, Int.natCast_emod] at p2
  have P2 := hid p2
  have KW := hid kW
  have HW := hid hW
  clear he hx hne hbg p1 p2 kW hW
  go_enter Try.func59, Try.ntmps59
  go_wp2_with fail
  refine HC.out.mono ?_
  rintro e w' ⟨rfl, rfl⟩
  go_wp2
  rw [← HW.out]
  clear HW s1 c2 zf
  go_region
  all_goals
    go_wp2
    go_ret2
    obtain ⟨U, hU⟩ : ∃ U, U = W.setCell ⟨h, 3 + s * 4 + 2, none⟩ (.int .i64 ((v : Int) % (n : Int))) := ⟨_, rfl⟩
    have P3 := P2.out
    have kU : Keep (fun k => k = h) w U := by rw [hU]; exact KW.out.trans (Keep.setCell (Keep.refl (fun k => k = h) W) (.inl rfl) _) (fun _ _ h => h)
    rw [← hU] at P3 ⊢
    have zU : U.heap.size = W.heap.size := by rw [hU]; simp [World.setCell]
    rw [← zU]
    clear hU
    exact ⟨_, rfl, P3.quiet (((Keep.refl Nil _).alloc _).drew), heap_alloc_new U (.cells #[rptr h, .int .i64 t, .int .i64 s, .int .u8 15] 209), (kU.alloc _).drew, kU.size⟩

/-! Next, Step. -/
set_option maxHeartbeats 1000000 in
theorem rgent_next {pc : Int} (he : RGEntAt w eb h t s pc) : Calls Try.prog 103 #[rptr eb] w fun e w' => e = .returned (.int .u8 pc) ∧ w = w' := by
  have c3 := he.cells.2.2.2
  clear he
  go_enter Try.func103, Try.ntmps103
  go_wp2
  go_ret
  exact ⟨rfl, rfl⟩
set_option maxHeartbeats 1000000 in
theorem rgent_idle (he : RGEntAt w eb h t s 0) : Calls Try.prog 104 #[rptr eb] w fun e w' => e = .returned (.tuple #[.int .u8 0, .bool false]) ∧ w = w' := by
  have NX := hid (rgent_next he)
  clear he
  go_enter Try.func104, Try.ntmps104
  go_wp2_with fail
  refine NX.out.mono ?_
  rintro e w' ⟨rfl, rfl⟩
  go_wp2
  go_ret2
  exact ⟨rfl, rfl⟩
/-- The reference's Enter has made a step. -/
def RGEntTo (w : World) (h rb : Nat) (G : Nat → Prop) (base : Int) (n : Nat) (sl : List RSl) (ws : List Int) (log : List Acc) (eb : Nat) (t : Int) (s : Nat) (pc : Int) (w' : World) : Prop :=
  ∃ G', RGSys w' h rb G' base n sl ws log ∧ RGEntAt w' eb h t s pc ∧ Keep (fun k => G k ∨ k = h ∨ k = eb) w w' ∧ Foot w G G' ∧ ¬ G' eb
theorem rgent_mk {sl' : List RSl} {ws' : List Int} {log' : List Acc} {W D w1 U : World} {F1 : Nat → Prop} {pc : Int} (hs : RGSys w h rb G base n sl ws log) (hF : ¬ G eb) (lb : eb < w.heap.size) (kW : Keep Nil w W) (m1 : RefAt w1 rb F1 ws' log') (kD : Keep G W D) (k1 : Keep G D w1) (f1 : Foot D G F1) (g : RGEngAt U h rb base n sl') (e : RGEntAt U eb h t s pc) (kU : Keep (fun k => k = h ∨ k = eb) w1 U) :
    RGEntTo w h rb G base n sl' ws' log' eb t s pc U := by
  have z1 := kW.size
  have z2 := kD.size
  have n1 : ∀ b : Nat, ¬ G b → b < w.heap.size → ¬ F1 b := fun b hb hl e => (f1 b e).elim hb (fun h => by omega)
  have nh := n1 h hs.fh (lt_of_block hs.eng.head)
  have ne := n1 eb hF lb
  exact ⟨F1, ⟨m1.keep kU (fun k hk e => e.elim (fun e => nh (e ▸ hk)) (fun e => ne (e ▸ hk))), g, nh⟩, e,
    (((kW.mono (T := fun k => G k ∨ k = h ∨ k = eb) (fun _ _ h => h.elim)).trans (kD.mono (T := fun k => G k ∨ k = h ∨ k = eb) (fun _ _ h => .inl h)) (fun _ _ h => h)).trans (k1.mono (T := fun k => G k ∨ k = h ∨ k = eb) (fun _ _ h => .inl h)) (fun _ _ h => h)).trans (kU.mono (T := fun k => G k ∨ k = h ∨ k = eb) (fun _ _ h => .inr h)) (fun _ _ h => h), fun k hk => (f1 k hk).elim .inl (fun h => .inr (by omega)), ne⟩
set_option maxRecDepth 100000 in
set_option maxHeartbeats 4000000 in
theorem rgent_gate (hs : RGSys w h rb G base n sl ws log) (he : RGEntAt w eb h t s 15) (hF : ¬ G eb) {x : RSl} (hx : sl[s]? = some x) (y : Nat) (t0 : 0 ≤ t) (t1 : t < 64) (hb : x.b < 1000) (b0 : 0 ≤ base) (b1 : base < 1000000) (hy : ws[(base + 4 * x.b).toNat]? = some (y : Int)) (hlog : log.length < 1000000000000) :
    Calls Try.prog 104 #[rptr eb] w fun e w' => e = .returned (.tuple #[.int .u8 15, .bool false]) ∧ RGEntTo w h rb G base n (sl.set s ⟨x.bg, x.th, x.b, y⟩) ws (log ++ [⟨t, base + 4 * x.b, 1, y, y, false⟩]) eb t s 16 w' := by
  obtain ⟨c0, c1, c2, c3⟩ := he.cells
  obtain ⟨k0, k1, k2⟩ := hs.eng.top
  have l0 := lt_of_at hx
  rw [hs.eng.len] at l0
  have e1 : eb ≠ h := gtype_ne' he hs.eng.head (by decide)
  have lb := lt_of_block he
  have NX := hid (rgent_next he)
  have z0 : (0 : Int) ≤ (s : Int) := by omega
  have z1 : (s : Int) < 64 := by omega
  have H := hid hs
  have E := hid he
  have HB := hid hF
  have HX := hid hx
  have HY := hid hy
  clear hs he hx hy hF c3 k2
  go_enter Try.func104, Try.ntmps104
  go_wp2_with fail
  refine NX.out.mono ?_
  rintro e w' ⟨rfl, rfl⟩
  go_wp2
  go_quiet (fail)
  clear c0 c1 c2 k0 k1
  obtain ⟨W, hW⟩ : ∃ W, W = w.drewN nq := ⟨_, rfl⟩
  have kW : Keep Nil w W := by rw [hW]; exact (Keep.refl Nil w).drewN nq
  rw [← hW]
  clear hW
  have KW := hid kW
  have HS := hid (H.out.quiet kW)
  have EW := hid (show RGEntAt W eb h t s 15 from kW.at E.out (fun h => h))
  clear kW
  obtain ⟨c0, c1, c2, c3⟩ := EW.out.cells
  obtain ⟨k0, k1, k2⟩ := HS.out.eng.top
  have sb := (HS.out.eng.slot HX.out).2.2.1
  have KD := hid ((Keep.refl Nil W).drew)
  have HA := hid (rgat_any (w := W.drew) (h := h) (base := base) x.b 0 k1 b0 b1 hb (by decide))
  rw [show base + 4 * (x.b : Int) + 0 = base + 4 * x.b by omega] at HA
  have HL := hid (rload_ok (HS.out.mem.keep KD.out (fun _ _ h => h)) t (base + 4 * x.b) y t0 t1 (by omega) HY.out hlog)
  clear c3 k2
  go_wp2
  go_region_held3 (fun w' => w'.cell? ⟨eb, 0, none⟩ = some (.pointer (some ⟨h, 0, none⟩)) ∧ w'.cell? ⟨eb, 1, none⟩ = some (.int .i64 t) ∧ w'.cell? ⟨h, 0, none⟩ = some (.pointer (some ⟨rb, 0, none⟩)) ∧ w'.cell? ⟨h, 3 + s * 4 + 2, none⟩ = some (.int .i64 x.b)) (go_keep)
    (first
      | (go_at_call 101; (with_reducible refine HA.out.mono ?_); rintro e wA ⟨rfl, rfl⟩)
      | (go_at_call 116; (with_reducible refine HL.out.mono ?_); rintro e w1 ⟨rfl, F1, hm1, hk1, hf1⟩; have hE1 : RGEntAt w1 eb h t s 15 := hk1.at (KD.out.at EW.out (fun h => h)) HB.out; have hG1 := (HS.out.eng.quiet KD.out).keep hk1 HS.out.fh; obtain ⟨d0, d1, d2, d3⟩ := hE1.cells; obtain ⟨m0, m1, m2⟩ := hG1.top; obtain ⟨-, -, m3, m4⟩ := hG1.slot HX.out; have zf := hG1.free (3 + s * 4 + 3); have hG2 := hG1.set HX.out ⟨x.bg, x.th, x.b, y⟩ (j := 3) (by decide) (.int .u64 (y : Int)) rfl; have hE2 : RGEntAt (w1.setCell ⟨h, 3 + s * 4 + 3, none⟩ (.int .u64 (y : Int))) eb h t s 15 := set_other hE1 e1 _; obtain ⟨q0, q1, q2, q3⟩ := hE2.cells; obtain ⟨r0, r1, r2⟩ := hG2.top; obtain ⟨-, -, r3, r4⟩ := hG2.slot (put_self HX.out _); have ze : (w1.setCell ⟨h, 3 + s * 4 + 3, none⟩ (.int .u64 (y : Int))).frozen? ⟨eb, 3, none⟩ = false := free_of hE2 3; have M1 := hid hm1; have K1 := hid hk1; have F1' := hid hf1; have E2 := hid hE2; have G2 := hid hG2; clear hm1 hk1 hf1 hE1 hG1 hE2 hG2))
  clear HA HL q0 q1 q2 r0 r1 r2 r3 c0 c1 k0 k1 sb
  have HR := hid (rgent_mk (pc := 16) H.out HB.out lb KW.out M1.out (KD.out.mono (fun _ _ h => h.elim)) K1.out F1'.out (G2.out.keep (Keep.setCell (Keep.refl (fun k => k = eb) _) (.inl rfl) _) (fun e => e1 e.symm)) (set_same (i := 3) E2.out (.int .u8 16)) (Keep.setCell (Keep.setCell (Keep.refl (fun k => k = h ∨ k = eb) _) (.inl (.inl rfl)) _) (.inl (.inr rfl)) _))
  clear M1 K1 F1' E2 G2 EW HS KW KD H E
  go_wp2
  go_ret2
  exact ⟨rfl, HR.out⟩
set_option maxRecDepth 100000 in
set_option maxHeartbeats 4000000 in
theorem rgent_count (hs : RGSys w h rb G base n sl ws log) (he : RGEntAt w eb h t s 16) (hF : ¬ G eb) {x : RSl} (hx : sl[s]? = some x) (y : Int) (t0 : 0 ≤ t) (t1 : t < 64) (hb : x.b < 1000) (hsd : x.sd < 2) (b0 : 0 ≤ base) (b1 : base < 1000000) (hy : ws[(base + 4 * x.b + 1 + x.sd).toNat]? = some y) (hlog : log.length < 1000000000000) :
    Calls Try.prog 104 #[rptr eb] w fun e w' => e = .returned (.tuple #[.int .u8 16, .bool true]) ∧ RGEntTo w h rb G base n (sl.set s ⟨x.bg, true, x.b, x.sd⟩) (ws.set (base + 4 * x.b + 1 + x.sd).toNat (IntKind.u64.wrap (y + 1))) (log ++ [⟨t, base + 4 * x.b + 1 + x.sd, 3, y, IntKind.u64.wrap (y + 1), false⟩]) eb t s 0 w' := by
  obtain ⟨c0, c1, c2, c3⟩ := he.cells
  obtain ⟨k0, k1, k2⟩ := hs.eng.top
  have l0 := lt_of_at hx
  rw [hs.eng.len] at l0
  have e1 : eb ≠ h := gtype_ne' he hs.eng.head (by decide)
  have lb := lt_of_block he
  have NX := hid (rgent_next he)
  have z0 : (0 : Int) ≤ (s : Int) := by omega
  have z1 : (s : Int) < 64 := by omega
  have H := hid hs
  have E := hid he
  have HB := hid hF
  have HX := hid hx
  have HY := hid hy
  have w1' : IntKind.i64.wrap (x.sd : Int) = x.sd := by rw [IntKind.wrap_i64]; omega
  have w2' : IntKind.i64.wrap (1 + (x.sd : Int)) = 1 + x.sd := by rw [IntKind.wrap_i64]; omega
  clear hs he hx hy hF c3 k2
  go_enter Try.func104, Try.ntmps104
  go_wp2_with fail
  refine NX.out.mono ?_
  rintro e w' ⟨rfl, rfl⟩
  go_wp2
  go_quiet (fail)
  clear c0 c1 c2 k0 k1
  obtain ⟨W, hW⟩ : ∃ W, W = w.drewN nq := ⟨_, rfl⟩
  have kW : Keep Nil w W := by rw [hW]; exact (Keep.refl Nil w).drewN nq
  rw [← hW]
  clear hW
  have KW := hid kW
  have HS := hid (H.out.quiet kW)
  have EW := hid (show RGEntAt W eb h t s 16 from kW.at E.out (fun h => h))
  clear kW
  obtain ⟨c0, c1, c2, c3⟩ := EW.out.cells
  obtain ⟨k0, k1, k2⟩ := HS.out.eng.top
  obtain ⟨-, -, sb, sd⟩ := HS.out.eng.slot HX.out
  have KD := hid ((Keep.refl Nil W).drew)
  have HA := hid (rgat_any (w := W.drew) (h := h) (base := base) x.b (1 + x.sd) k1 b0 b1 hb (by omega))
  rw [show base + 4 * (x.b : Int) + (1 + (x.sd : Int)) = base + 4 * x.b + 1 + x.sd by omega] at HA
  have HL := hid (radd_ok (HS.out.mem.keep KD.out (fun _ _ h => h)) t (base + 4 * x.b + 1 + x.sd) y 1 t0 t1 (by omega) HY.out hlog)
  clear c3 k2
  go_wp2
  go_region_held3 (fun w' => w'.cell? ⟨eb, 0, none⟩ = some (.pointer (some ⟨h, 0, none⟩)) ∧ w'.cell? ⟨eb, 1, none⟩ = some (.int .i64 t) ∧ w'.cell? ⟨h, 0, none⟩ = some (.pointer (some ⟨rb, 0, none⟩)) ∧ w'.cell? ⟨h, 3 + s * 4 + 2, none⟩ = some (.int .i64 x.b) ∧ w'.cell? ⟨h, 3 + s * 4 + 3, none⟩ = some (.int .u64 x.sd)) (go_keep)
    (first
      | (go_at_call 101; (with_reducible refine HA.out.mono ?_); rintro e wA ⟨rfl, rfl⟩)
      | (go_at_call 100; (with_reducible refine HL.out.mono ?_); rintro e w1 ⟨rfl, F1, hm1, hk1, hf1⟩; have hE1 : RGEntAt w1 eb h t s 16 := hk1.at (KD.out.at EW.out (fun h => h)) HB.out; have hG1 := (HS.out.eng.quiet KD.out).keep hk1 HS.out.fh; obtain ⟨d0, d1, d2, d3⟩ := hE1.cells; obtain ⟨m0, m1, m2⟩ := hG1.top; obtain ⟨-, m5, m3, m4⟩ := hG1.slot HX.out; have M1 := hid hm1; have K1 := hid hk1; have F1' := hid hf1; have E1 := hid hE1; have G1 := hid hG1; clear hm1 hk1 hf1 hE1 hG1))
  have zf := G1.out.free (3 + s * 4 + 1)
  have G2 := hid (G1.out.set HX.out ⟨x.bg, true, x.b, x.sd⟩ (j := 1) (by decide) (.bool true) rfl)
  have E2 := hid (show RGEntAt (w1.setCell ⟨h, 3 + s * 4 + 1, none⟩ (.bool true)) eb h t s 16 from set_other E1.out e1 _)
  have ze : (w1.setCell ⟨h, 3 + s * 4 + 1, none⟩ (.bool true)).frozen? ⟨eb, 3, none⟩ = false := free_of E2.out 3
  obtain ⟨q0, q1, q2, q3⟩ := E2.out.cells
  clear HA HL c0 c1 k0 k1 sb sd
  have HR := hid (rgent_mk (pc := 0) H.out HB.out lb KW.out M1.out (KD.out.mono (fun _ _ h => h.elim)) K1.out F1'.out (G2.out.keep (Keep.setCell (Keep.refl (fun k => k = eb) _) (.inl rfl) _) (fun e => e1 e.symm)) (set_same (i := 3) E2.out (.int .u8 0)) (Keep.setCell (Keep.setCell (Keep.refl (fun k => k = h ∨ k = eb) _) (.inl (.inl rfl)) _) (.inl (.inr rfl)) _))
  clear M1 K1 F1' E2 G2 EW HS KW KD H E
  go_wp2
  go_ret2
  exact ⟨rfl, HR.out⟩

/-! Exit. -/
set_option maxHeartbeats 2000000 in
theorem rgexit_thread (h : Nat) (t s0 : Int) (ht : t < 0 ∨ 64 ≤ t) :
    Calls Try.prog 60 #[rptr h, .int .i64 t, .int .i64 s0] w fun e w' => e = .returned (.tuple #[.int .u8 0, .int .i64 2]) ∧ w = w' := by
  have HT := hid (thread_no t ht w)
  clear ht
  go_enter Try.func60, Try.ntmps60
  go_wp2_with fail
  refine HT.out.mono ?_
  rintro e w' ⟨rfl, rfl⟩
  go_wp2
  go_ret2
  exact ⟨rfl, rfl⟩
set_option maxHeartbeats 2000000 in
theorem rgexit_slot (h : Nat) (t0 : 0 ≤ t) (t1 : t < 64) (s0 : Int) (hs : s0 < 0 ∨ 64 ≤ s0) :
    Calls Try.prog 60 #[rptr h, .int .i64 t, .int .i64 s0] w fun e w' => e = .returned (.tuple #[.int .u8 0, .int .i64 3]) ∧ w = w' := by
  have HT := hid (thread_yes t t0 t1 w)
  by_cases h1 : s0 < 0
  · have d1 : decide (s0 < 0) = true := decide_eq_true h1
    clear hs h1
    go_enter Try.func60, Try.ntmps60
    go_wp2_with fail
    refine HT.out.mono ?_
    rintro e w' ⟨rfl, rfl⟩
    go_wp2
    go_ret2
    exact ⟨rfl, rfl⟩
  · have d1 : decide (s0 < 0) = false := decide_eq_false h1
    have d2 : decide (64 ≤ s0) = true := decide_eq_true (by omega)
    clear hs h1
    go_enter Try.func60, Try.ntmps60
    go_wp2_with fail
    refine HT.out.mono ?_
    rintro e w' ⟨rfl, rfl⟩
    go_wp2
    go_ret2
    exact ⟨rfl, rfl⟩
set_option maxHeartbeats 2000000 in
theorem rgexit_state (he : RGEngAt w h rb base n sl) (t0 : 0 ≤ t) (t1 : t < 64) {x : RSl} (hx : sl[s]? = some x) (hth : x.th = false) :
    Calls Try.prog 60 #[rptr h, .int .i64 t, .int .i64 s] w fun e w' => e = .returned (.tuple #[.int .u8 0, .int .i64 8]) ∧ w = w' := by
  have s2 := (he.slot hx).2.1
  rw [hth] at s2
  have l0 := lt_of_at hx
  rw [he.len] at l0
  have HT := hid (thread_yes t t0 t1 w)
  have d1 : decide ((s : Int) < 0) = false := decide_eq_false (by omega)
  have d2 : decide (64 ≤ (s : Int)) = false := decide_eq_false (by omega)
  have z0 : (0 : Int) ≤ (s : Int) := by omega
  have z1 : (s : Int) < 64 := by omega
  clear he hx
  go_enter Try.func60, Try.ntmps60
  go_wp2_with fail
  refine HT.out.mono ?_
  rintro e w' ⟨rfl, rfl⟩
  go_wp2
  go_ret2
  exact ⟨rfl, rfl⟩
def RGSysTo (w : World) (h rb : Nat) (G : Nat → Prop) (base : Int) (n : Nat) (sl : List RSl) (ws : List Int) (log : List Acc) (w' : World) : Prop :=
  ∃ G', RGSys w' h rb G' base n sl ws log ∧ Keep (fun k => G k ∨ k = h) w w' ∧ Foot w G G'
set_option maxRecDepth 100000 in
set_option maxHeartbeats 4000000 in
theorem rgexit_ok (hs : RGSys w h rb G base n sl ws log) {x : RSl} (hx : sl[s]? = some x) (hth : x.th = true) (y : Int) (t0 : 0 ≤ t) (t1 : t < 64) (hb : x.b < 1000) (hsd : x.sd < 2) (b0 : 0 ≤ base) (b1 : base < 1000000) (hy : ws[(base + 4 * x.b + 1 + x.sd).toNat]? = some y) (hlog : log.length < 1000000000000) :
    Calls Try.prog 60 #[rptr h, .int .i64 t, .int .i64 s] w fun e w' => e = .returned (.tuple #[.int .u8 16, .int .i64 0]) ∧ RGSysTo w h rb G base n (sl.set s ⟨false, false, x.b, x.sd⟩) (ws.set (base + 4 * x.b + 1 + x.sd).toNat (IntKind.u64.wrap (y + 18446744073709551615))) (log ++ [⟨t, base + 4 * x.b + 1 + x.sd, 3, y, IntKind.u64.wrap (y + 18446744073709551615), false⟩]) w' := by
  obtain ⟨k0, k1, k2⟩ := hs.eng.top
  obtain ⟨-, s2, sb, sd⟩ := hs.eng.slot hx
  rw [hth] at s2
  have l0 := lt_of_at hx
  rw [hs.eng.len] at l0
  have HT := hid (thread_yes t t0 t1 w)
  have d1 : decide ((s : Int) < 0) = false := decide_eq_false (by omega)
  have d2 : decide (64 ≤ (s : Int)) = false := decide_eq_false (by omega)
  have z0 : (0 : Int) ≤ (s : Int) := by omega
  have z1 : (s : Int) < 64 := by omega
  have H := hid hs
  have HX := hid hx
  have KD := hid ((Keep.refl Nil w).drew)
  have w1' : IntKind.i64.wrap (x.sd : Int) = x.sd := by rw [IntKind.wrap_i64]; omega
  have w2' : IntKind.i64.wrap (1 + (x.sd : Int)) = 1 + x.sd := by rw [IntKind.wrap_i64]; omega
  have HA := hid (rgat_any (w := w.drew) (h := h) (base := base) x.b (1 + x.sd) k1 b0 b1 hb (by omega))
  rw [show base + 4 * (x.b : Int) + (1 + (x.sd : Int)) = base + 4 * x.b + 1 + x.sd by omega] at HA
  have HL := hid (radd_ok (hs.mem.keep KD.out (fun _ _ h => h)) t (base + 4 * x.b + 1 + x.sd) y 18446744073709551615 t0 t1 (by omega) hy hlog)
  clear hs hx hy k2
  go_enter Try.func60, Try.ntmps60
  go_wp2_with fail
  refine HT.out.mono ?_
  rintro e w' ⟨rfl, rfl⟩
  go_wp2
  go_region_held3 (fun w' => w'.cell? ⟨h, 0, none⟩ = some (.pointer (some ⟨rb, 0, none⟩)) ∧ w'.cell? ⟨h, 3 + s * 4 + 2, none⟩ = some (.int .i64 x.b) ∧ w'.cell? ⟨h, 3 + s * 4 + 3, none⟩ = some (.int .u64 x.sd)) (go_keep)
    (first
      | (go_at_call 101; (with_reducible refine HA.out.mono ?_); rintro e wA ⟨rfl, rfl⟩)
      | (go_at_call 100; (with_reducible refine HL.out.mono ?_); rintro e w1 ⟨rfl, F1, hm1, hk1, hf1⟩; have hG1 := (H.out.eng.quiet KD.out).keep hk1 H.out.fh; obtain ⟨m0, m1, m2⟩ := hG1.top; obtain ⟨m6, m5, m3, m4⟩ := hG1.slot HX.out; have M1 := hid hm1; have K1 := hid hk1; have F1' := hid hf1; have G1 := hid hG1; clear hm1 hk1 hf1 hG1))
  have zf := G1.out.free (3 + s * 4)
  have zf1 := G1.out.free (3 + s * 4 + 1)
  have g2 := G1.out.set HX.out ⟨false, x.th, x.b, x.sd⟩ (j := 0) (by decide) (.bool false) rfl
  have g3 := g2.set (put_self HX.out _) ⟨false, false, x.b, x.sd⟩ (j := 1) (by decide) (.bool false) rfl
  rw [List.set_set] at g3
  simp only [Nat.add_zero] at g3
  have kU : Keep (fun k => k = h) w1 ((w1.setCell ⟨h, 3 + s * 4, none⟩ (.bool false)).setCell ⟨h, 3 + s * 4 + 1, none⟩ (.bool false)) := Keep.setCell (Keep.setCell (Keep.refl (fun k => k = h) w1) (.inl rfl) _) (.inl rfl) _
  have nF : ¬ F1 h := fun e => (F1'.out h e).elim H.out.fh (fun e => by have := lt_of_block H.out.eng.head; simp at e; omega)
  have HR := hid (show RGSysTo w h rb G base n (sl.set s ⟨false, false, x.b, x.sd⟩) _ _ ((w1.setCell ⟨h, 3 + s * 4, none⟩ (.bool false)).setCell ⟨h, 3 + s * 4 + 1, none⟩ (.bool false)) from
    ⟨F1, ⟨M1.out.keep kU (fun k hk e => nF (e ▸ hk)), g3, nF⟩, ((KD.out.mono (T := fun k => G k ∨ k = h) (fun _ _ h => h.elim)).trans (K1.out.mono (T := fun k => G k ∨ k = h) (fun _ _ h => .inl h)) (fun _ _ h => h)).trans (kU.mono (T := fun k => G k ∨ k = h) (fun _ _ h => .inr h)) (fun _ _ h => h), fun k hk => (F1'.out k hk).elim .inl (fun e => .inr (by simpa using e))⟩)
  clear HA HL k0 k1 sb sd s2 g2 g3 kU nF
  go_wp2
  go_ret2
  exact ⟨rfl, HR.out⟩

/-! Open. -/
def ropenTo (en : Nat → Bool) (k : Nat) : List Nat := (List.range k).filter en
theorem ropenTo_succ (en : Nat → Bool) (k : Nat) : ropenTo en (k + 1) = if en k then ropenTo en k ++ [k] else ropenTo en k := by
  unfold ropenTo
  rw [List.range_succ, List.filter_append]
  by_cases h : en k = true <;> simp [h]
theorem ropenTo_len (en : Nat → Bool) (k : Nat) : (ropenTo en k).length ≤ k := by
  have := List.length_filter_le en (List.range k)
  simpa [ropenTo] using this
set_option maxRecDepth 100000 in
set_option maxHeartbeats 2000000 in
theorem rgopen_ok (he : RGEngAt w h rb base n sl) (en : Nat → Bool) (hen : ∀ (k : Nat) (x : RSl), sl[k]? = some x → en k = x.th) :
    Calls Try.prog 64 #[rptr h] w (NumsTo w (ropenTo en 64)) := by
  have H := hid he
  have HQ := hid hen
  clear he hen
  go_enter Try.func64, Try.ntmps64
  go_wp2
  go_loopw [3, 4] (fun v' i wr => ∃ (k : Nat) (v : Value), k ≤ 64 ∧ i = .int .i64 k ∧ v' = v ∧ wr.ownsRow 0 3 1 v (ropenTo en k).length (nums (ropenTo en k)) ∧ Keep Nil w wr ∧ ∀ k, v.ownBlock = some k → w.heap.size ≤ k) (fun _ i _ => 64 - (intOf i).toNat)
  case atStart => exact ⟨0, _, Nat.zero_le _, rfl, rfl, World.ownsRow_nil _ _ _ _, Keep.refl _ _, by simp [Value.ownBlock]⟩
  case round =>
    obtain ⟨k, v, hk, rfl, hvv, ho, hkk, hv⟩ := hrel
    obtain rfl : v = _ := hvv.symm
    have HO := hid ho
    have HK := hid hkk
    have HV := hid hv
    have hlen := ropenTo_len en k
    have HM := hid (ropenTo_succ en k)
    clear ho hkk hv
    by_cases hlt : k < 64
    · obtain ⟨x, hx⟩ : ∃ x, sl[k]? = some x := ⟨_, List.getElem?_eq_getElem (by have := H.out.len; omega)⟩
      have hd := HQ.out k x hx
      have s2 := ((H.out.quiet HK.out).slot hx).2.1
      rw [hd] at HM
      generalize x.th = d at s2 HM
      have z0 : (0 : Int) ≤ (k : Int) := by omega
      have z1 : (k : Int) < 64 := by omega
      clear hx hd
      cases d with
      | true =>
        have hM := hid (HM.out.trans (if_pos rfl))
        clear HM
        go_wp2_with (at_builtin; refine wpList_app _ rfl (.tmp 20) (.tmp 22) 39 rfl 3 _ 1 8 Try.underlying39 infoInt rfl (by decide) v (ropenTo en k).length (nums (ropenTo en k)) rfl ?own _ 1 [.int .i64 k] rfl ?rd ?one ?byt ?len ?_)
        case own => exact HO.out.alloc _
        case rd => exact rd_new _ _ _ _ _ _
        case one => simp [Value.oneCell']
        case byt => omega
        case len => unfold maxLen; omega
        intro a' c' w3 ho hg hs
        have HO3 := hid ho
        have HK3 := hid (Keep.grown (HK.out.alloc _) hg (fun j hj => .inr (HV.out j hj)))
        have HV3 := hid (show ∀ j, (Value.slice a' ((ropenTo en k).length + 1) c').ownBlock = some j → w.heap.size ≤ j from fun j hj => by
          rcases hs j hj with h | h
          · exact HV.out j h
          · have := HK.out.size; simp at h; omega)
        clear ho hg hs
        go_wp2
        go_roundw
        case rel =>
          refine ⟨k + 1, _, by omega, by go_num, rfl, ?_, HK3.out, HV3.out⟩
          rw [hM.out, nums_snoc, List.length_append]
          exact HO3.out
        case measure => simp [intOf]; omega
      | false =>
        have hM := hid (HM.out.trans (if_neg (by decide)))
        clear HM
        go_wp2
        go_roundw
        case rel => exact ⟨k + 1, _, by omega, by go_num, rfl, by rw [hM.out]; exact HO.out, HK.out, HV.out⟩
        case measure => simp [intOf]; omega
    · obtain rfl : k = 64 := by omega
      go_wp2
      go_ret
      exact ⟨_, rfl, row_rd HO.out, HK.out⟩

/-! Wait. -/
set_option maxHeartbeats 1000000 in
theorem rgwait_err (h : Nat) (t x : Int) (hx : t < 0 ∨ 64 ≤ t ∨ x = 0) : Calls Try.prog 61 #[rptr h, .int .i64 t, .int .u64 x] w fun e w' => e = .returned (.tuple #[.pointer none, .int .i64 2]) ∧ w = w' := by
  by_cases ht : t < 0 ∨ 64 ≤ t
  · have HT := hid (thread_no t ht w)
    clear hx ht
    go_enter Try.func61, Try.ntmps61
    go_wp2_with fail
    refine HT.out.mono ?_
    rintro e w' ⟨rfl, rfl⟩
    go_wp2
    go_ret2
    exact ⟨rfl, rfl⟩
  · have HT := hid (thread_yes t (by omega) (by omega) w)
    have d1 : (x == 0) = true := beq_iff_eq.2 (by omega)
    clear hx ht
    go_enter Try.func61, Try.ntmps61
    go_wp2_with fail
    refine HT.out.mono ?_
    rintro e w' ⟨rfl, rfl⟩
    go_wp2
    go_ret2
    exact ⟨rfl, rfl⟩
/-- The buckets as a row of the call's own. -/
def BktsOwn (w : World) (l : List Nat) (e : Ending) (w' : World) : Prop := ∃ v, e = .returned (.tuple #[v, .int .i64 0]) ∧ w'.ownsRow 0 3 1 v l.length (nums l) ∧ Keep Nil w w' ∧ ∀ k, v.ownBlock = some k → w.heap.size ≤ k
set_option maxRecDepth 100000 in
set_option maxHeartbeats 2000000 in
theorem rbuckets_own (s n : Nat) (hs : s < 18446744073709551616) (h1 : 1 ≤ n) (h2 : n ≤ 16) : Calls Try.prog 102 #[.int .u64 s, .int .i64 n] w (BktsOwn w (bkts s n)) := by
  have d1 : decide ((n : Int) < 1) = false := decide_eq_false (by omega)
  have d2 : decide (16 < (n : Int)) = false := decide_eq_false (by omega)
  go_enter Try.func102, Try.ntmps102
  go_wp2
  go_loopw [6, 7] (fun v' i wr => ∃ (k : Nat) (v : Value), k ≤ n ∧ i = .int .i64 k ∧ v' = v ∧ wr.ownsRow 0 3 1 v (bktTo s n k).length (nums (bktTo s n k)) ∧ Keep Nil w wr ∧ ∀ k, v.ownBlock = some k → w.heap.size ≤ k) (fun _ i _ => n - (intOf i).toNat)
  case atStart => exact ⟨0, _, Nat.zero_le _, rfl, rfl, World.ownsRow_nil _ _ _ _, Keep.refl _ _, by simp [Value.ownBlock]⟩
  case round =>
    obtain ⟨k, v, hk, rfl, hvv, ho, hkk, hv⟩ := hrel
    obtain rfl : v = _ := hvv.symm
    have HO := hid ho
    have HK := hid hkk
    have HV := hid hv
    have hml := bktTo_len s n k
    clear ho hkk hv
    by_cases hlt : k < n
    · have HM := hid (bktTo_succ s n k)
      have HE := hid (fun j (h : 64 ≤ k + j * n) => hasB_end (s := s) (n := n) (b := k) (j := j) (by omega) hlt h hs)
      go_wp2
      go_loop [8, 9] (fun b i => ∃ (j m : Nat), Hid (m = k + j * n) ∧ m < 64 + n ∧ i = .int .i64 m ∧ b = .bool (hasB s n k j)) (fun _ i => 80 - (intOf i).toNat)
      case atStart => exact ⟨0, k, hid (by omega), by omega, rfl, by rw [hasB_zero]⟩
      case round =>
        obtain ⟨j, m, HMM, hm, rfl, rfl⟩ := hrel
        by_cases hm64 : m < 64
        · have HI := hid (fun (w : World) => @in_any w s m hs hm64)
          have HS := hid (show hasB s n k (j + 1) = (hasB s n k j || s.testBit m) by rw [HMM.out]; exact hasB_succ s n k j)
          have HNX := hid (show m + n = k + (j + 1) * n by rw [HMM.out, Nat.add_mul]; omega)
          generalize s.testBit m = tb at HI HS
          generalize hasB s n k j = hb at *
          cases hb with
          | true =>
            go_wp2
            go_round
            case rel => exact ⟨j + 1, m + n, HNX, by omega, by go_num, by rw [HS.out]; rfl⟩
            case measure => simp [intOf]; omega
          | false =>
            go_wp2_with fail
            refine (HI.out _).mono ?_
            rintro e w' ⟨rfl, rfl⟩
            go_wp2
            go_round
            case rel => exact ⟨j + 1, m + n, HNX, by omega, by go_num, by rw [HS.out]; simp⟩
            case measure => simp [intOf]; omega
        · have he := HE.out j (by have := HMM.out; omega)
          have HEE := hid he
          clear he
          cases hb : inB s n k with
          | true =>
            have hM := hid (HM.out.trans (if_pos hb))
            have hh : hasB s n k j = true := by rw [HEE.out]; exact hb
            rw [hh]
            clear hb hh HM HEE HE
            go_wp2_with (at_builtin; refine wpList_app _ rfl (.tmp 34) (.tmp 36) 39 rfl 3 _ 1 8 Try.underlying39 infoInt rfl (by decide) v (bktTo s n k).length (nums (bktTo s n k)) rfl ?own _ 1 [.int .i64 k] rfl ?rd ?one ?byt ?len ?_)
            case own => exact HO.out.alloc _
            case rd => exact rd_new _ _ _ _ _ _
            case one => simp [Value.oneCell']
            case byt => omega
            case len => unfold maxLen; omega
            intro a' c' w3 ho hg hs
            have HO3 := hid ho
            have HK3 := hid (Keep.grown (HK.out.alloc _) hg (fun j hj => .inr (HV.out j hj)))
            have HV3 := hid (show ∀ j, (Value.slice a' ((bktTo s n k).length + 1) c').ownBlock = some j → w.heap.size ≤ j from fun j hj => by
              rcases hs j hj with h | h
              · exact HV.out j h
              · have := HK.out.size; simp at h; omega)
            clear ho hg hs
            go_wp2
            go_roundw
            case rel =>
              refine ⟨k + 1, _, by omega, by go_num, rfl, ?_, HK3.out, HV3.out⟩
              rw [hM.out, nums_snoc, List.length_append]
              exact HO3.out
            case measure => simp [intOf]; omega
          | false =>
            have hM := hid (HM.out.trans (if_neg (by rw [hb]; decide)))
            have hh : hasB s n k j = false := by rw [HEE.out]; exact hb
            rw [hh]
            clear hb hh HM HEE HE
            go_wp2
            go_roundw
            case rel => exact ⟨k + 1, _, by omega, by go_num, rfl, by rw [hM.out]; exact HO.out, HK.out, HV.out⟩
            case measure => simp [intOf]; omega
    · obtain rfl : k = n := by omega
      go_wp2
      go_ret2
      exact ⟨_, rfl, HO.out, HK.out, HV.out⟩

/-- What is left of a wait. -/
def RLv (w : World) (lv : Value) (l : List Nat) : Prop := ∃ a c, lv = .slice a l.length c ∧ Rd w 1 lv l.length (nums l) ∧ l.length ≤ c
theorem RLv.keep {lv : Value} {l : List Nat} {S : Nat → Prop} (hl : RLv w lv l) (hk : Keep S w w') (hn : ∀ k, lv.ownBlock = some k → ¬ S k) : RLv w' lv l := by
  obtain ⟨a, c, h1, h2, h3⟩ := hl
  exact ⟨a, c, h1, rd_keep h2 hk hn, h3⟩
theorem rlv_row {v : Value} {l : List Nat} (hl : w.ownsRow 0 3 1 v l.length (nums l)) : RLv w v l := by
  have h2 := row_rd hl
  rcases hl.2 with ⟨rfl, h0⟩ | ⟨g, cap, cur, rfl, hb, hg, hnc, hcm, hcs, htake⟩
  · exact ⟨none, 0, by rw [h0], h2, by omega⟩
  · exact ⟨_, cap, rfl, h2, hnc⟩
def RGWaitTo (w : World) (h : Nat) (t : Int) (l : List Nat) (e : Ending) (w' : World) : Prop :=
  ∃ wb lv, e = .returned (.tuple #[rptr wb, .int .i64 0]) ∧ RGWaitAt w' wb h t lv 0 false 2 ∧ RLv w' lv l ∧ Keep Nil w w' ∧ w.heap.size ≤ wb ∧ ∀ k, lv.ownBlock = some k → w.heap.size ≤ k ∧ k < wb
set_option maxHeartbeats 2000000 in
theorem rgwait_ok (he : RGEngAt w h rb base n sl) (t : Int) (x : Nat) (t0 : 0 ≤ t) (t1 : t < 64) (x0 : x ≠ 0) (x1 : x < 18446744073709551616) (n0 : 1 ≤ n) (n1 : n ≤ 16) (hne : bkts x n ≠ []) :
    Calls Try.prog 61 #[rptr h, .int .i64 t, .int .u64 x] w (RGWaitTo w h t (bkts x n)) := by
  have k2 := he.top.2.2
  have HT := hid (thread_yes t t0 t1 w)
  have HK := hid (@rbuckets_own w x n x1 n0 n1)
  have d1 : ((x : Int) == 0) = false := beq_eq_false_iff_ne.2 (by omega)
  have HN := hid hne
  clear he hne
  go_enter Try.func61, Try.ntmps61
  go_wp2_with fail
  refine HT.out.mono ?_
  rintro e w' ⟨rfl, rfl⟩
  go_wp2_with fail
  refine HK.out.mono ?_
  rintro e w1 ⟨v, rfl, hrd, hk, hv⟩
  have hlv := rlv_row hrd
  obtain ⟨va, vc, rfl, -⟩ := id hlv
  have LV := hid hlv
  have RD := hid (row_rd hrd)
  have K1 := hid hk
  have HV := hid hv
  clear hrd hk hv HK k2 hlv
  go_wp2
  go_ret2
  have kA : Keep Nil w1 (w1.alloc (.cells #[rptr h, .int .i64 t, .slice va (bkts x n).length vc, .int .u64 0, .bool false, .int .u8 2] 214)) := (Keep.refl Nil w1).alloc _
  refine ⟨w1.heap.size, _, rfl, heap_alloc_new w1 _, LV.out.keep kA (fun _ _ h => h), K1.out.trans kA (fun _ _ h => h), K1.out.size, fun k hk => ⟨HV.out k hk, ?_⟩⟩
  obtain ⟨b0, r0, hbr⟩ := List.exists_cons_of_ne_nil HN.out
  obtain ⟨q, off, c', hv', hcell⟩ := RD.out.cell (by rw [hbr]; simp)
  simp only [Value.slice.injEq] at hv'
  obtain ⟨rfl, -, rfl⟩ := hv'
  have : q = k := by simpa [Value.ownBlock] using hk
  subst this
  exact World.block_lt_of_cell? w1 _ (hcell 0 _ (by rw [hbr]; rfl))
end
end Go.Proofs.Ytihgfklajhhikaa

/-! leapfrogref18: the steps of a wait: contracts. -/
set_option linter.unusedVariables false
set_option linter.unusedSimpArgs false
namespace Go.Lf
/-- What the reference knows of whether the gate was turned. -/
def rtu (st : Nat) (tu : Bool) : Prop := (1 ≤ st ∧ st ≤ 3 → tu = false) ∧ (4 ≤ st ∧ st ≤ 5 → tu = true)
end Go.Lf
namespace Go.Proofs.Ytihgfklajhhikaa
open Go.RowKit Go.Lf
section
variable {w w' : World} {h rb wb : Nat} {G : Nat → Prop} {base : Int} {n : Nat} {sl : List RSl} {ws ws' : List Int} {log : List Acc} {t : Int} {lv : Value} {side b : Nat} {tu : Bool} {rest : List Nat}
theorem rgwnext {pc : Int} (he : RGWaitAt w wb h t lv side tu pc) : Calls Try.prog 105 #[rptr wb] w fun e w' => e = .returned (.int .u8 pc) ∧ w = w' := by
  have c3 := he.cells.2.2.2.2.2
  clear he
  go_enter Try.func105, Try.ntmps105
  go_wp2
  go_ret
  exact ⟨rfl, rfl⟩
set_option maxRecDepth 100000 in
theorem rgwstep_over (he : RGWaitAt w wb h t lv side tu 0) : Calls Try.prog 107 #[rptr wb] w fun e w' => e = .returned (.tuple #[.int .u8 0, .bool false]) ∧ w = w' := by
  have NX := hid (rgwnext he)
  clear he
  go_enter Try.func107, Try.ntmps107
  go_wp2_with fail
  refine NX.out.mono ?_
  rintro e w' ⟨rfl, rfl⟩
  go_wp2
  go_ret2
  exact ⟨rfl, rfl⟩
/-- The reference's wait has made a step. -/
def RGWStTo (w : World) (h rb : Nat) (G : Nat → Prop) (base : Int) (n : Nat) (sl : List RSl) (ws : List Int) (log : List Acc) (wb : Nat) (t : Int) (lv : Value) (side : Nat) (tu : Bool) (pc : Int) (w' : World) : Prop :=
  ∃ G', RGSys w' h rb G' base n sl ws log ∧ RGWaitAt w' wb h t lv side tu pc ∧ Keep (fun k => G k ∨ k = wb) w w' ∧ Foot w G G' ∧ ¬ G' wb
theorem rgw_mk {ws' : List Int} {log' : List Acc} {W D w1 U : World} {F1 : Nat → Prop} {lv' : Value} {side' : Nat} {tu' : Bool} {pc pc' : Int} (hs : RGSys w h rb G base n sl ws log) (hw : RGWaitAt w wb h t lv side tu pc) (hF : ¬ G wb) (kW : Keep Nil w W) (kD : Keep G W D) (m1 : RefAt w1 rb F1 ws' log') (k1 : Keep G D w1) (f1 : Foot D G F1) (e : RGWaitAt U wb h t lv' side' tu' pc') (kU : Keep (fun k => k = wb) w1 U) :
    RGWStTo w h rb G base n sl ws' log' wb t lv' side' tu' pc' U := by
  have z1 := kW.size
  have z2 := kD.size
  have lb := lt_of_block hw
  have e1 : wb ≠ h := gtype_ne' hw hs.eng.head (by decide)
  have n1 : ∀ b : Nat, ¬ G b → b < w.heap.size → ¬ F1 b := fun b hb hl e => (f1 b e).elim hb (fun h => by omega)
  have nh := n1 h hs.fh (lt_of_block hs.eng.head)
  have ne := n1 wb hF lb
  have kG : Keep G w w1 := ((kW.mono (T := G) (fun _ _ h => h.elim)).trans kD (fun _ _ h => h)).trans k1 (fun _ _ h => h)
  exact ⟨F1, ⟨m1.keep kU (fun k hk e => ne (e ▸ hk)), (hs.eng.keep kG hs.fh).keep kU (fun e => e1 e.symm), nh⟩, e,
    (kG.mono (T := fun k => G k ∨ k = wb) (fun _ _ h => .inl h)).trans (kU.mono (T := fun k => G k ∨ k = wb) (fun _ _ h => .inr h)) (fun _ _ h => h), fun k hk => (f1 k hk).elim .inl (fun h => .inr (by omega)), ne⟩
set_option maxRecDepth 100000 in
set_option maxHeartbeats 4000000 in
theorem rgw_lock (hs : RGSys w h rb G base n sl ws log) (hw : RGWaitAt w wb h t lv side tu 2) (hF : ¬ G wb) (hlv : RLv w lv (b :: rest)) (hside : side < 2) (hb : b < 1000) (t0 : 0 ≤ t) (t1 : t < 64) (b0 : 0 ≤ base) (b1 : base < 1000000) (hx : ws[(base + 4 * b + 3).toNat]? = some 0) (hlog : log.length < 1000000000000) :
    Calls Try.prog 107 #[rptr wb] w fun e w' => e = .returned (.tuple #[.int .u8 2, .bool false]) ∧ RGWStTo w h rb G base n sl (ws.set (base + 4 * b + 3).toNat (t + 1)) (log ++ [⟨t, base + 4 * b + 3, 4, 0, t + 1, true⟩]) wb t lv side false 15 w' := by
  obtain ⟨c0, c1, c2, c3, c4, c5⟩ := hw.cells
  obtain ⟨k0, k1, -⟩ := hs.eng.top
  obtain ⟨la, lc, rfl, hrd, hcap⟩ := id hlv
  obtain ⟨q, off, lc', hv', hcell⟩ := hrd.cell (by simp)
  simp only [Value.slice.injEq] at hv'
  obtain ⟨rfl, -, rfl⟩ := hv'
  have cq : w.cell? ⟨q, off, none⟩ = some (.int .i64 b) := hcell 0 _ rfl
  simp only [List.length_cons] at c2
  have NX := hid (rgwnext hw)
  have H := hid hs
  have E := hid hw
  have HB := hid hF
  have HX := hid hx
  have LV := hid hlv
  have CAP := hid hcap
  clear hs hw hF hx hlv hrd hcell hcap
  have wt : IntKind.u64.wrap t = t := by rw [IntKind.wrap_u64]; omega
  have wt1 : IntKind.u64.wrap (t + 1) = t + 1 := by rw [IntKind.wrap_u64]; omega
  go_enter Try.func107, Try.ntmps107
  go_wp2_with fail
  refine NX.out.mono ?_
  rintro e w' ⟨rfl, rfl⟩
  go_wp2
  go_quiet (fail)
  clear c0 c1 c2 c3 c4 c5 k0 k1 cq
  obtain ⟨W, hW⟩ : ∃ W, W = w.drewN nq := ⟨_, rfl⟩
  have kW : Keep Nil w W := by rw [hW]; exact (Keep.refl Nil w).drewN nq
  rw [← hW]
  clear hW
  have KW := hid kW
  have HS := hid (H.out.quiet kW)
  have EW := hid (show RGWaitAt W wb h t _ side _ _ from kW.at E.out (fun h => h))
  clear kW
  obtain ⟨c0, c1, c2, c3, c4, c5⟩ := EW.out.cells
  obtain ⟨k0, k1, -⟩ := HS.out.eng.top
  have KD := hid ((Keep.refl Nil W).drew)
  have HA := hid (rgat_any (w := W.drew) (h := h) (base := base) b 3 k1 b0 b1 hb (by omega))
  rw [show base + 4 * (b : Int) + 3 = base + 4 * b + 3 by omega] at HA
  have HL := hid (rcas_yes (HS.out.mem.keep KD.out (fun _ _ h => h)) t (base + 4 * b + 3) 0 (t + 1) t0 t1 (by omega) HX.out hlog)
  go_wp2
  go_region_held3 (fun w' => w'.cell? ⟨wb, 0, none⟩ = some (.pointer (some ⟨h, 0, none⟩)) ∧ w'.cell? ⟨wb, 1, none⟩ = some (.int .i64 t) ∧ w'.cell? ⟨wb, 3, none⟩ = some (.int .u64 side)) (go_keep)
    (first
      | (go_at_call 101; (with_reducible refine HA.out.mono ?_); rintro e wA ⟨rfl, rfl⟩)
      | (go_at_call 127; (with_reducible refine HL.out.mono ?_); rintro e w1 ⟨rfl, F1, hm1, hk1, hf1⟩; have hE1 : RGWaitAt w1 wb h t _ side _ _ := hk1.at (KD.out.at EW.out (fun h => h)) HB.out; obtain ⟨d0, d1, d2, d3, d4, d5⟩ := hE1.cells; have z2 : w1.frozen? ⟨wb, 2, none⟩ = false := free_of hE1 2; have z3 : w1.frozen? ⟨wb, 3, none⟩ = false := free_of hE1 3; have z4 : w1.frozen? ⟨wb, 4, none⟩ = false := free_of hE1 4; have z5 : w1.frozen? ⟨wb, 5, none⟩ = false := free_of hE1 5; have M1 := hid hm1; have K1 := hid hk1; have F1' := hid hf1; have E1 := hid hE1; clear hm1 hk1 hf1 hE1))
  clear HA HL c0 c1 c2 c3 c4 c5 k0 k1
  have HR := hid (rgw_mk H.out E.out HB.out KW.out (KD.out.mono (T := G) (fun _ _ h => h.elim)) M1.out K1.out F1'.out (set_same (i := 4) (set_same (i := 5) E1.out (.int .u8 15)) (.bool false)) (Keep.setCell (Keep.setCell (Keep.refl (fun k => k = wb) w1) (.inl rfl) _) (.inl rfl) _))
  clear M1 K1 F1' EW HS KW KD H E E1
  go_wp2
  go_ret2
  exact ⟨rfl, HR.out⟩
set_option maxRecDepth 100000 in
set_option maxHeartbeats 4000000 in
theorem rgw_busy (hs : RGSys w h rb G base n sl ws log) (hw : RGWaitAt w wb h t lv side tu 2) (hF : ¬ G wb) (hlv : RLv w lv (b :: rest)) (hside : side < 2) (hb : b < 1000) (t0 : 0 ≤ t) (t1 : t < 64) (b0 : 0 ≤ base) (b1 : base < 1000000) (x : Int) (hx : ws[(base + 4 * b + 3).toNat]? = some x) (hne : x ≠ 0) (hlog : log.length < 1000000000000) :
    Calls Try.prog 107 #[rptr wb] w fun e w' => e = .returned (.tuple #[.int .u8 2, .bool false]) ∧ RGWStTo w h rb G base n sl (ws) (log ++ [⟨t, base + 4 * b + 3, 4, x, x, false⟩]) wb t lv side tu 2 w' := by
  obtain ⟨c0, c1, c2, c3, c4, c5⟩ := hw.cells
  obtain ⟨k0, k1, -⟩ := hs.eng.top
  obtain ⟨la, lc, rfl, hrd, hcap⟩ := id hlv
  obtain ⟨q, off, lc', hv', hcell⟩ := hrd.cell (by simp)
  simp only [Value.slice.injEq] at hv'
  obtain ⟨rfl, -, rfl⟩ := hv'
  have cq : w.cell? ⟨q, off, none⟩ = some (.int .i64 b) := hcell 0 _ rfl
  simp only [List.length_cons] at c2
  have NX := hid (rgwnext hw)
  have H := hid hs
  have E := hid hw
  have HB := hid hF
  have HX := hid hx
  have LV := hid hlv
  have CAP := hid hcap
  clear hs hw hF hx hlv hrd hcell hcap
  have wt : IntKind.u64.wrap t = t := by rw [IntKind.wrap_u64]; omega
  have wt1 : IntKind.u64.wrap (t + 1) = t + 1 := by rw [IntKind.wrap_u64]; omega
  go_enter Try.func107, Try.ntmps107
  go_wp2_with fail
  refine NX.out.mono ?_
  rintro e w' ⟨rfl, rfl⟩
  go_wp2
  go_quiet (fail)
  clear c0 c1 c2 c3 c4 c5 k0 k1 cq
  obtain ⟨W, hW⟩ : ∃ W, W = w.drewN nq := ⟨_, rfl⟩
  have kW : Keep Nil w W := by rw [hW]; exact (Keep.refl Nil w).drewN nq
  rw [← hW]
  clear hW
  have KW := hid kW
  have HS := hid (H.out.quiet kW)
  have EW := hid (show RGWaitAt W wb h t _ side _ _ from kW.at E.out (fun h => h))
  clear kW
  obtain ⟨c0, c1, c2, c3, c4, c5⟩ := EW.out.cells
  obtain ⟨k0, k1, -⟩ := HS.out.eng.top
  have KD := hid ((Keep.refl Nil W).drew)
  have HA := hid (rgat_any (w := W.drew) (h := h) (base := base) b 3 k1 b0 b1 hb (by omega))
  rw [show base + 4 * (b : Int) + 3 = base + 4 * b + 3 by omega] at HA
  have HL := hid (rcas_no (HS.out.mem.keep KD.out (fun _ _ h => h)) t (base + 4 * b + 3) x 0 (t + 1) t0 t1 (by omega) HX.out hne hlog)
  go_wp2
  go_region_held3 (fun w' => w'.cell? ⟨wb, 0, none⟩ = some (.pointer (some ⟨h, 0, none⟩)) ∧ w'.cell? ⟨wb, 1, none⟩ = some (.int .i64 t) ∧ w'.cell? ⟨wb, 3, none⟩ = some (.int .u64 side)) (go_keep)
    (first
      | (go_at_call 101; (with_reducible refine HA.out.mono ?_); rintro e wA ⟨rfl, rfl⟩)
      | (go_at_call 127; (with_reducible refine HL.out.mono ?_); rintro e w1 ⟨rfl, F1, hm1, hk1, hf1⟩; have hE1 : RGWaitAt w1 wb h t _ side _ _ := hk1.at (KD.out.at EW.out (fun h => h)) HB.out; obtain ⟨d0, d1, d2, d3, d4, d5⟩ := hE1.cells; have z2 : w1.frozen? ⟨wb, 2, none⟩ = false := free_of hE1 2; have z3 : w1.frozen? ⟨wb, 3, none⟩ = false := free_of hE1 3; have z4 : w1.frozen? ⟨wb, 4, none⟩ = false := free_of hE1 4; have z5 : w1.frozen? ⟨wb, 5, none⟩ = false := free_of hE1 5; have M1 := hid hm1; have K1 := hid hk1; have F1' := hid hf1; have E1 := hid hE1; clear hm1 hk1 hf1 hE1))
  clear HA HL c0 c1 c2 c3 c4 c5 k0 k1
  have HR := hid (rgw_mk H.out E.out HB.out KW.out (KD.out.mono (T := G) (fun _ _ h => h.elim)) M1.out K1.out F1'.out E1.out (Keep.refl (fun k => k = wb) w1))
  clear M1 K1 F1' EW HS KW KD H E E1
  go_wp2
  go_ret2
  exact ⟨rfl, HR.out⟩
set_option maxRecDepth 100000 in
set_option maxHeartbeats 4000000 in
theorem rgw_look (hs : RGSys w h rb G base n sl ws log) (hw : RGWaitAt w wb h t lv side tu 15) (hF : ¬ G wb) (hlv : RLv w lv (b :: rest)) (hside : side < 2) (hb : b < 1000) (t0 : 0 ≤ t) (t1 : t < 64) (b0 : 0 ≤ base) (b1 : base < 1000000) (x : Nat) (hx : ws[(base + 4 * b).toNat]? = some (x : Int)) (hlog : log.length < 1000000000000) :
    Calls Try.prog 107 #[rptr wb] w fun e w' => e = .returned (.tuple #[.int .u8 15, .bool false]) ∧ RGWStTo w h rb G base n sl (ws) (log ++ [⟨t, base + 4 * b, 1, x, x, false⟩]) wb t lv x tu 19 w' := by
  obtain ⟨c0, c1, c2, c3, c4, c5⟩ := hw.cells
  obtain ⟨k0, k1, -⟩ := hs.eng.top
  obtain ⟨la, lc, rfl, hrd, hcap⟩ := id hlv
  obtain ⟨q, off, lc', hv', hcell⟩ := hrd.cell (by simp)
  simp only [Value.slice.injEq] at hv'
  obtain ⟨rfl, -, rfl⟩ := hv'
  have cq : w.cell? ⟨q, off, none⟩ = some (.int .i64 b) := hcell 0 _ rfl
  simp only [List.length_cons] at c2
  have NX := hid (rgwnext hw)
  have H := hid hs
  have E := hid hw
  have HB := hid hF
  have HX := hid hx
  have LV := hid hlv
  have CAP := hid hcap
  clear hs hw hF hx hlv hrd hcell hcap
  go_enter Try.func107, Try.ntmps107
  go_wp2_with fail
  refine NX.out.mono ?_
  rintro e w' ⟨rfl, rfl⟩
  go_wp2
  go_quiet (fail)
  clear c0 c1 c2 c3 c4 c5 k0 k1 cq
  obtain ⟨W, hW⟩ : ∃ W, W = w.drewN nq := ⟨_, rfl⟩
  have kW : Keep Nil w W := by rw [hW]; exact (Keep.refl Nil w).drewN nq
  rw [← hW]
  clear hW
  have KW := hid kW
  have HS := hid (H.out.quiet kW)
  have EW := hid (show RGWaitAt W wb h t _ side _ _ from kW.at E.out (fun h => h))
  clear kW
  obtain ⟨c0, c1, c2, c3, c4, c5⟩ := EW.out.cells
  obtain ⟨k0, k1, -⟩ := HS.out.eng.top
  have KD := hid ((Keep.refl Nil W).drew)
  have HA := hid (rgat_any (w := W.drew) (h := h) (base := base) b 0 k1 b0 b1 hb (by omega))
  rw [show base + 4 * (b : Int) + 0 = base + 4 * b by omega] at HA
  have HL := hid (rload_ok (HS.out.mem.keep KD.out (fun _ _ h => h)) t (base + 4 * b) x t0 t1 (by omega) HX.out hlog)
  go_wp2
  go_region_held3 (fun w' => w'.cell? ⟨wb, 0, none⟩ = some (.pointer (some ⟨h, 0, none⟩)) ∧ w'.cell? ⟨wb, 1, none⟩ = some (.int .i64 t) ) (go_keep)
    (first
      | (go_at_call 101; (with_reducible refine HA.out.mono ?_); rintro e wA ⟨rfl, rfl⟩)
      | (go_at_call 116; (with_reducible refine HL.out.mono ?_); rintro e w1 ⟨rfl, F1, hm1, hk1, hf1⟩; have hE1 : RGWaitAt w1 wb h t _ side _ _ := hk1.at (KD.out.at EW.out (fun h => h)) HB.out; obtain ⟨d0, d1, d2, d3, d4, d5⟩ := hE1.cells; have z2 : w1.frozen? ⟨wb, 2, none⟩ = false := free_of hE1 2; have z3 : w1.frozen? ⟨wb, 3, none⟩ = false := free_of hE1 3; have z4 : w1.frozen? ⟨wb, 4, none⟩ = false := free_of hE1 4; have z5 : w1.frozen? ⟨wb, 5, none⟩ = false := free_of hE1 5; have E3 := hid (show RGWaitAt (w1.setCell ⟨wb, 3, none⟩ (.int .u64 (x : Int))) wb h t _ x _ _ from set_same (i := 3) hE1 (.int .u64 (x : Int))); obtain ⟨u0, u1, u2, u3, u4, u5⟩ := E3.out.cells; have y5 : (w1.setCell ⟨wb, 3, none⟩ (.int .u64 (x : Int))).frozen? ⟨wb, 5, none⟩ = false := free_of E3.out 5; have M1 := hid hm1; have K1 := hid hk1; have F1' := hid hf1; have E1 := hid hE1; clear hm1 hk1 hf1 hE1))
  clear HA HL c0 c1 c2 c3 c4 c5 k0 k1
  have HR := hid (rgw_mk H.out E.out HB.out KW.out (KD.out.mono (T := G) (fun _ _ h => h.elim)) M1.out K1.out F1'.out (set_same (i := 5) E3.out (.int .u8 19)) (Keep.setCell (Keep.setCell (Keep.refl (fun k => k = wb) w1) (.inl rfl) _) (.inl rfl) _))
  clear M1 K1 F1' EW HS KW KD H E E1 E3
  go_wp2
  go_ret2
  exact ⟨rfl, HR.out⟩
set_option maxRecDepth 100000 in
set_option maxHeartbeats 4000000 in
theorem rgw_other_yes (hs : RGSys w h rb G base n sl ws log) (hw : RGWaitAt w wb h t lv side false 19) (hF : ¬ G wb) (hlv : RLv w lv (b :: rest)) (hside : side < 2) (hb : b < 1000) (t0 : 0 ≤ t) (t1 : t < 64) (b0 : 0 ≤ base) (b1 : base < 1000000) (x : Int) (hx : ws[(base + 4 * b + 1 + (1 - (side : Int))).toNat]? = some x) (hz : x = 0) (hlog : log.length < 1000000000000) :
    Calls Try.prog 107 #[rptr wb] w fun e w' => e = .returned (.tuple #[.int .u8 19, .bool false]) ∧ RGWStTo w h rb G base n sl (ws) (log ++ [⟨t, base + 4 * b + 1 + (1 - (side : Int)), 1, x, x, false⟩]) wb t lv side false 20 w' := by
  obtain ⟨c0, c1, c2, c3, c4, c5⟩ := hw.cells
  obtain ⟨k0, k1, -⟩ := hs.eng.top
  obtain ⟨la, lc, rfl, hrd, hcap⟩ := id hlv
  obtain ⟨q, off, lc', hv', hcell⟩ := hrd.cell (by simp)
  simp only [Value.slice.injEq] at hv'
  obtain ⟨rfl, -, rfl⟩ := hv'
  have cq : w.cell? ⟨q, off, none⟩ = some (.int .i64 b) := hcell 0 _ rfl
  simp only [List.length_cons] at c2
  have NX := hid (rgwnext hw)
  have H := hid hs
  have E := hid hw
  have HB := hid hF
  have HX := hid hx
  have LV := hid hlv
  have CAP := hid hcap
  clear hs hw hF hx hlv hrd hcell hcap
  have ws1 : IntKind.u64.wrap (1 - (side : Int)) = 1 - side := by rw [IntKind.wrap_u64]; omega
  have wc : IntKind.i64.wrap (1 - (side : Int)) = 1 - side := by rw [IntKind.wrap_i64]; omega
  have wd : IntKind.i64.wrap (1 + (1 - (side : Int))) = 1 + (1 - side) := by rw [IntKind.wrap_i64]; omega
  have dz : (x == 0) = true := beq_iff_eq.2 hz
  have HZ := hid hz
  clear hz
  go_enter Try.func107, Try.ntmps107
  go_wp2_with fail
  refine NX.out.mono ?_
  rintro e w' ⟨rfl, rfl⟩
  go_wp2
  go_quiet (fail)
  clear c0 c1 c2 c3 c4 c5 k0 k1 cq
  obtain ⟨W, hW⟩ : ∃ W, W = w.drewN nq := ⟨_, rfl⟩
  have kW : Keep Nil w W := by rw [hW]; exact (Keep.refl Nil w).drewN nq
  rw [← hW]
  clear hW
  have KW := hid kW
  have HS := hid (H.out.quiet kW)
  have EW := hid (show RGWaitAt W wb h t _ side _ _ from kW.at E.out (fun h => h))
  clear kW
  obtain ⟨c0, c1, c2, c3, c4, c5⟩ := EW.out.cells
  obtain ⟨k0, k1, -⟩ := HS.out.eng.top
  have KD := hid ((Keep.refl Nil W).drew)
  have HA := hid (rgat_any (w := W.drew) (h := h) (base := base) b (1 + (1 - (side : Int))) k1 b0 b1 hb (by omega))
  rw [show base + 4 * (b : Int) + (1 + (1 - (side : Int))) = base + 4 * b + 1 + (1 - (side : Int)) by omega] at HA
  have HL := hid (rload_ok (HS.out.mem.keep KD.out (fun _ _ h => h)) t (base + 4 * b + 1 + (1 - (side : Int))) x t0 t1 (by omega) HX.out hlog)
  go_wp2
  go_region_held3 (fun w' => w'.cell? ⟨wb, 0, none⟩ = some (.pointer (some ⟨h, 0, none⟩)) ∧ w'.cell? ⟨wb, 1, none⟩ = some (.int .i64 t) ∧ w'.cell? ⟨wb, 3, none⟩ = some (.int .u64 side)) (go_keep)
    (first
      | (go_at_call 101; (with_reducible refine HA.out.mono ?_); rintro e wA ⟨rfl, rfl⟩)
      | (go_at_call 116; (with_reducible refine HL.out.mono ?_); rintro e w1 ⟨rfl, F1, hm1, hk1, hf1⟩; have hE1 : RGWaitAt w1 wb h t _ side _ _ := hk1.at (KD.out.at EW.out (fun h => h)) HB.out; obtain ⟨d0, d1, d2, d3, d4, d5⟩ := hE1.cells; have z2 : w1.frozen? ⟨wb, 2, none⟩ = false := free_of hE1 2; have z3 : w1.frozen? ⟨wb, 3, none⟩ = false := free_of hE1 3; have z4 : w1.frozen? ⟨wb, 4, none⟩ = false := free_of hE1 4; have z5 : w1.frozen? ⟨wb, 5, none⟩ = false := free_of hE1 5; have M1 := hid hm1; have K1 := hid hk1; have F1' := hid hf1; have E1 := hid hE1; clear hm1 hk1 hf1 hE1))
  clear HA HL c0 c1 c2 c3 c4 c5 k0 k1
  have HR := hid (rgw_mk H.out E.out HB.out KW.out (KD.out.mono (T := G) (fun _ _ h => h.elim)) M1.out K1.out F1'.out (set_same (i := 5) E1.out (.int .u8 20)) (Keep.setCell (Keep.refl (fun k => k = wb) w1) (.inl rfl) _))
  clear M1 K1 F1' EW HS KW KD H E E1
  go_wp2
  go_ret2
  exact ⟨rfl, HR.out⟩
set_option maxRecDepth 100000 in
set_option maxHeartbeats 4000000 in
theorem rgw_other_no (hs : RGSys w h rb G base n sl ws log) (hw : RGWaitAt w wb h t lv side false 19) (hF : ¬ G wb) (hlv : RLv w lv (b :: rest)) (hside : side < 2) (hb : b < 1000) (t0 : 0 ≤ t) (t1 : t < 64) (b0 : 0 ≤ base) (b1 : base < 1000000) (x : Int) (hx : ws[(base + 4 * b + 1 + (1 - (side : Int))).toNat]? = some x) (hz : x ≠ 0) (hlog : log.length < 1000000000000) :
    Calls Try.prog 107 #[rptr wb] w fun e w' => e = .returned (.tuple #[.int .u8 19, .bool false]) ∧ RGWStTo w h rb G base n sl (ws) (log ++ [⟨t, base + 4 * b + 1 + (1 - (side : Int)), 1, x, x, false⟩]) wb t lv side false 19 w' := by
  obtain ⟨c0, c1, c2, c3, c4, c5⟩ := hw.cells
  obtain ⟨k0, k1, -⟩ := hs.eng.top
  obtain ⟨la, lc, rfl, hrd, hcap⟩ := id hlv
  obtain ⟨q, off, lc', hv', hcell⟩ := hrd.cell (by simp)
  simp only [Value.slice.injEq] at hv'
  obtain ⟨rfl, -, rfl⟩ := hv'
  have cq : w.cell? ⟨q, off, none⟩ = some (.int .i64 b) := hcell 0 _ rfl
  simp only [List.length_cons] at c2
  have NX := hid (rgwnext hw)
  have H := hid hs
  have E := hid hw
  have HB := hid hF
  have HX := hid hx
  have LV := hid hlv
  have CAP := hid hcap
  clear hs hw hF hx hlv hrd hcell hcap
  have ws1 : IntKind.u64.wrap (1 - (side : Int)) = 1 - side := by rw [IntKind.wrap_u64]; omega
  have wc : IntKind.i64.wrap (1 - (side : Int)) = 1 - side := by rw [IntKind.wrap_i64]; omega
  have wd : IntKind.i64.wrap (1 + (1 - (side : Int))) = 1 + (1 - side) := by rw [IntKind.wrap_i64]; omega
  have dz : (x == 0) = false := beq_eq_false_iff_ne.2 hz
  have HZ := hid hz
  clear hz
  go_enter Try.func107, Try.ntmps107
  go_wp2_with fail
  refine NX.out.mono ?_
  rintro e w' ⟨rfl, rfl⟩
  go_wp2
  go_quiet (fail)
  clear c0 c1 c2 c3 c4 c5 k0 k1 cq
  obtain ⟨W, hW⟩ : ∃ W, W = w.drewN nq := ⟨_, rfl⟩
  have kW : Keep Nil w W := by rw [hW]; exact (Keep.refl Nil w).drewN nq
  rw [← hW]
  clear hW
  have KW := hid kW
  have HS := hid (H.out.quiet kW)
  have EW := hid (show RGWaitAt W wb h t _ side _ _ from kW.at E.out (fun h => h))
  clear kW
  obtain ⟨c0, c1, c2, c3, c4, c5⟩ := EW.out.cells
  obtain ⟨k0, k1, -⟩ := HS.out.eng.top
  have KD := hid ((Keep.refl Nil W).drew)
  have HA := hid (rgat_any (w := W.drew) (h := h) (base := base) b (1 + (1 - (side : Int))) k1 b0 b1 hb (by omega))
  rw [show base + 4 * (b : Int) + (1 + (1 - (side : Int))) = base + 4 * b + 1 + (1 - (side : Int)) by omega] at HA
  have HL := hid (rload_ok (HS.out.mem.keep KD.out (fun _ _ h => h)) t (base + 4 * b + 1 + (1 - (side : Int))) x t0 t1 (by omega) HX.out hlog)
  go_wp2
  go_region_held3 (fun w' => w'.cell? ⟨wb, 0, none⟩ = some (.pointer (some ⟨h, 0, none⟩)) ∧ w'.cell? ⟨wb, 1, none⟩ = some (.int .i64 t) ∧ w'.cell? ⟨wb, 3, none⟩ = some (.int .u64 side)) (go_keep)
    (first
      | (go_at_call 101; (with_reducible refine HA.out.mono ?_); rintro e wA ⟨rfl, rfl⟩)
      | (go_at_call 116; (with_reducible refine HL.out.mono ?_); rintro e w1 ⟨rfl, F1, hm1, hk1, hf1⟩; have hE1 : RGWaitAt w1 wb h t _ side _ _ := hk1.at (KD.out.at EW.out (fun h => h)) HB.out; obtain ⟨d0, d1, d2, d3, d4, d5⟩ := hE1.cells; have z2 : w1.frozen? ⟨wb, 2, none⟩ = false := free_of hE1 2; have z3 : w1.frozen? ⟨wb, 3, none⟩ = false := free_of hE1 3; have z4 : w1.frozen? ⟨wb, 4, none⟩ = false := free_of hE1 4; have z5 : w1.frozen? ⟨wb, 5, none⟩ = false := free_of hE1 5; have M1 := hid hm1; have K1 := hid hk1; have F1' := hid hf1; have E1 := hid hE1; clear hm1 hk1 hf1 hE1))
  clear HA HL c0 c1 c2 c3 c4 c5 k0 k1
  have HR := hid (rgw_mk H.out E.out HB.out KW.out (KD.out.mono (T := G) (fun _ _ h => h.elim)) M1.out K1.out F1'.out E1.out (Keep.refl (fun k => k = wb) w1))
  clear M1 K1 F1' EW HS KW KD H E E1
  go_wp2
  go_ret2
  exact ⟨rfl, HR.out⟩
set_option maxRecDepth 100000 in
set_option maxHeartbeats 4000000 in
theorem rgw_drain_yes (hs : RGSys w h rb G base n sl ws log) (hw : RGWaitAt w wb h t lv side true 19) (hF : ¬ G wb) (hlv : RLv w lv (b :: rest)) (hside : side < 2) (hb : b < 1000) (t0 : 0 ≤ t) (t1 : t < 64) (b0 : 0 ≤ base) (b1 : base < 1000000) (x : Int) (hx : ws[(base + 4 * b + 1 + (side : Int)).toNat]? = some x) (hz : x = 0) (hlog : log.length < 1000000000000) :
    Calls Try.prog 107 #[rptr wb] w fun e w' => e = .returned (.tuple #[.int .u8 19, .bool false]) ∧ RGWStTo w h rb G base n sl (ws) (log ++ [⟨t, base + 4 * b + 1 + (side : Int), 1, x, x, false⟩]) wb t lv side true 3 w' := by
  obtain ⟨c0, c1, c2, c3, c4, c5⟩ := hw.cells
  obtain ⟨k0, k1, -⟩ := hs.eng.top
  obtain ⟨la, lc, rfl, hrd, hcap⟩ := id hlv
  obtain ⟨q, off, lc', hv', hcell⟩ := hrd.cell (by simp)
  simp only [Value.slice.injEq] at hv'
  obtain ⟨rfl, -, rfl⟩ := hv'
  have cq : w.cell? ⟨q, off, none⟩ = some (.int .i64 b) := hcell 0 _ rfl
  simp only [List.length_cons] at c2
  have NX := hid (rgwnext hw)
  have H := hid hs
  have E := hid hw
  have HB := hid hF
  have HX := hid hx
  have LV := hid hlv
  have CAP := hid hcap
  clear hs hw hF hx hlv hrd hcell hcap
  have ws1 : IntKind.u64.wrap (1 - (side : Int)) = 1 - side := by rw [IntKind.wrap_u64]; omega
  have wc : IntKind.i64.wrap (side : Int) = side := by rw [IntKind.wrap_i64]; omega
  have wd : IntKind.i64.wrap (1 + (side : Int)) = 1 + side := by rw [IntKind.wrap_i64]; omega
  have dz : (x == 0) = true := beq_iff_eq.2 hz
  have HZ := hid hz
  clear hz
  go_enter Try.func107, Try.ntmps107
  go_wp2_with fail
  refine NX.out.mono ?_
  rintro e w' ⟨rfl, rfl⟩
  go_wp2
  go_quiet (fail)
  clear c0 c1 c2 c3 c4 c5 k0 k1 cq
  obtain ⟨W, hW⟩ : ∃ W, W = w.drewN nq := ⟨_, rfl⟩
  have kW : Keep Nil w W := by rw [hW]; exact (Keep.refl Nil w).drewN nq
  rw [← hW]
  clear hW
  have KW := hid kW
  have HS := hid (H.out.quiet kW)
  have EW := hid (show RGWaitAt W wb h t _ side _ _ from kW.at E.out (fun h => h))
  clear kW
  obtain ⟨c0, c1, c2, c3, c4, c5⟩ := EW.out.cells
  obtain ⟨k0, k1, -⟩ := HS.out.eng.top
  have KD := hid ((Keep.refl Nil W).drew)
  have HA := hid (rgat_any (w := W.drew) (h := h) (base := base) b (1 + (side : Int)) k1 b0 b1 hb (by omega))
  rw [show base + 4 * (b : Int) + (1 + (side : Int)) = base + 4 * b + 1 + (side : Int) by omega] at HA
  have HL := hid (rload_ok (HS.out.mem.keep KD.out (fun _ _ h => h)) t (base + 4 * b + 1 + (side : Int)) x t0 t1 (by omega) HX.out hlog)
  go_wp2
  go_region_held3 (fun w' => w'.cell? ⟨wb, 0, none⟩ = some (.pointer (some ⟨h, 0, none⟩)) ∧ w'.cell? ⟨wb, 1, none⟩ = some (.int .i64 t) ∧ w'.cell? ⟨wb, 3, none⟩ = some (.int .u64 side)) (go_keep)
    (first
      | (go_at_call 101; (with_reducible refine HA.out.mono ?_); rintro e wA ⟨rfl, rfl⟩)
      | (go_at_call 116; (with_reducible refine HL.out.mono ?_); rintro e w1 ⟨rfl, F1, hm1, hk1, hf1⟩; have hE1 : RGWaitAt w1 wb h t _ side _ _ := hk1.at (KD.out.at EW.out (fun h => h)) HB.out; obtain ⟨d0, d1, d2, d3, d4, d5⟩ := hE1.cells; have z2 : w1.frozen? ⟨wb, 2, none⟩ = false := free_of hE1 2; have z3 : w1.frozen? ⟨wb, 3, none⟩ = false := free_of hE1 3; have z4 : w1.frozen? ⟨wb, 4, none⟩ = false := free_of hE1 4; have z5 : w1.frozen? ⟨wb, 5, none⟩ = false := free_of hE1 5; have M1 := hid hm1; have K1 := hid hk1; have F1' := hid hf1; have E1 := hid hE1; clear hm1 hk1 hf1 hE1))
  clear HA HL c0 c1 c2 c3 c4 c5 k0 k1
  have HR := hid (rgw_mk H.out E.out HB.out KW.out (KD.out.mono (T := G) (fun _ _ h => h.elim)) M1.out K1.out F1'.out (set_same (i := 5) (set_same (i := 5) E1.out (.int .u8 20)) (.int .u8 3)) (Keep.setCell (Keep.setCell (Keep.refl (fun k => k = wb) w1) (.inl rfl) _) (.inl rfl) _))
  clear M1 K1 F1' EW HS KW KD H E E1
  go_wp2
  go_ret2
  exact ⟨rfl, HR.out⟩
set_option maxRecDepth 100000 in
set_option maxHeartbeats 4000000 in
theorem rgw_drain_no (hs : RGSys w h rb G base n sl ws log) (hw : RGWaitAt w wb h t lv side true 19) (hF : ¬ G wb) (hlv : RLv w lv (b :: rest)) (hside : side < 2) (hb : b < 1000) (t0 : 0 ≤ t) (t1 : t < 64) (b0 : 0 ≤ base) (b1 : base < 1000000) (x : Int) (hx : ws[(base + 4 * b + 1 + (side : Int)).toNat]? = some x) (hz : x ≠ 0) (hlog : log.length < 1000000000000) :
    Calls Try.prog 107 #[rptr wb] w fun e w' => e = .returned (.tuple #[.int .u8 19, .bool false]) ∧ RGWStTo w h rb G base n sl (ws) (log ++ [⟨t, base + 4 * b + 1 + (side : Int), 1, x, x, false⟩]) wb t lv side true 19 w' := by
  obtain ⟨c0, c1, c2, c3, c4, c5⟩ := hw.cells
  obtain ⟨k0, k1, -⟩ := hs.eng.top
  obtain ⟨la, lc, rfl, hrd, hcap⟩ := id hlv
  obtain ⟨q, off, lc', hv', hcell⟩ := hrd.cell (by simp)
  simp only [Value.slice.injEq] at hv'
  obtain ⟨rfl, -, rfl⟩ := hv'
  have cq : w.cell? ⟨q, off, none⟩ = some (.int .i64 b) := hcell 0 _ rfl
  simp only [List.length_cons] at c2
  have NX := hid (rgwnext hw)
  have H := hid hs
  have E := hid hw
  have HB := hid hF
  have HX := hid hx
  have LV := hid hlv
  have CAP := hid hcap
  clear hs hw hF hx hlv hrd hcell hcap
  have ws1 : IntKind.u64.wrap (1 - (side : Int)) = 1 - side := by rw [IntKind.wrap_u64]; omega
  have wc : IntKind.i64.wrap (side : Int) = side := by rw [IntKind.wrap_i64]; omega
  have wd : IntKind.i64.wrap (1 + (side : Int)) = 1 + side := by rw [IntKind.wrap_i64]; omega
  have dz : (x == 0) = false := beq_eq_false_iff_ne.2 hz
  have HZ := hid hz
  clear hz
  go_enter Try.func107, Try.ntmps107
  go_wp2_with fail
  refine NX.out.mono ?_
  rintro e w' ⟨rfl, rfl⟩
  go_wp2
  go_quiet (fail)
  clear c0 c1 c2 c3 c4 c5 k0 k1 cq
  obtain ⟨W, hW⟩ : ∃ W, W = w.drewN nq := ⟨_, rfl⟩
  have kW : Keep Nil w W := by rw [hW]; exact (Keep.refl Nil w).drewN nq
  rw [← hW]
  clear hW
  have KW := hid kW
  have HS := hid (H.out.quiet kW)
  have EW := hid (show RGWaitAt W wb h t _ side _ _ from kW.at E.out (fun h => h))
  clear kW
  obtain ⟨c0, c1, c2, c3, c4, c5⟩ := EW.out.cells
  obtain ⟨k0, k1, -⟩ := HS.out.eng.top
  have KD := hid ((Keep.refl Nil W).drew)
  have HA := hid (rgat_any (w := W.drew) (h := h) (base := base) b (1 + (side : Int)) k1 b0 b1 hb (by omega))
  rw [show base + 4 * (b : Int) + (1 + (side : Int)) = base + 4 * b + 1 + (side : Int) by omega] at HA
  have HL := hid (rload_ok (HS.out.mem.keep KD.out (fun _ _ h => h)) t (base + 4 * b + 1 + (side : Int)) x t0 t1 (by omega) HX.out hlog)
  go_wp2
  go_region_held3 (fun w' => w'.cell? ⟨wb, 0, none⟩ = some (.pointer (some ⟨h, 0, none⟩)) ∧ w'.cell? ⟨wb, 1, none⟩ = some (.int .i64 t) ∧ w'.cell? ⟨wb, 3, none⟩ = some (.int .u64 side)) (go_keep)
    (first
      | (go_at_call 101; (with_reducible refine HA.out.mono ?_); rintro e wA ⟨rfl, rfl⟩)
      | (go_at_call 116; (with_reducible refine HL.out.mono ?_); rintro e w1 ⟨rfl, F1, hm1, hk1, hf1⟩; have hE1 : RGWaitAt w1 wb h t _ side _ _ := hk1.at (KD.out.at EW.out (fun h => h)) HB.out; obtain ⟨d0, d1, d2, d3, d4, d5⟩ := hE1.cells; have z2 : w1.frozen? ⟨wb, 2, none⟩ = false := free_of hE1 2; have z3 : w1.frozen? ⟨wb, 3, none⟩ = false := free_of hE1 3; have z4 : w1.frozen? ⟨wb, 4, none⟩ = false := free_of hE1 4; have z5 : w1.frozen? ⟨wb, 5, none⟩ = false := free_of hE1 5; have M1 := hid hm1; have K1 := hid hk1; have F1' := hid hf1; have E1 := hid hE1; clear hm1 hk1 hf1 hE1))
  clear HA HL c0 c1 c2 c3 c4 c5 k0 k1
  have HR := hid (rgw_mk H.out E.out HB.out KW.out (KD.out.mono (T := G) (fun _ _ h => h.elim)) M1.out K1.out F1'.out E1.out (Keep.refl (fun k => k = wb) w1))
  clear M1 K1 F1' EW HS KW KD H E E1
  go_wp2
  go_ret2
  exact ⟨rfl, HR.out⟩
set_option maxRecDepth 100000 in
set_option maxHeartbeats 4000000 in
theorem rgw_flip (hs : RGSys w h rb G base n sl ws log) (hw : RGWaitAt w wb h t lv side false 20) (hF : ¬ G wb) (hlv : RLv w lv (b :: rest)) (hside : side < 2) (hb : b < 1000) (t0 : 0 ≤ t) (t1 : t < 64) (b0 : 0 ≤ base) (b1 : base < 1000000) (x : Int) (hx : ws[(base + 4 * b).toNat]? = some x) (hlog : log.length < 1000000000000) :
    Calls Try.prog 107 #[rptr wb] w fun e w' => e = .returned (.tuple #[.int .u8 20, .bool false]) ∧ RGWStTo w h rb G base n sl (ws.set (base + 4 * b).toNat (1 - (side : Int))) (log ++ [⟨t, base + 4 * b, 2, x, 1 - (side : Int), false⟩]) wb t lv side true 19 w' := by
  obtain ⟨c0, c1, c2, c3, c4, c5⟩ := hw.cells
  obtain ⟨k0, k1, -⟩ := hs.eng.top
  obtain ⟨la, lc, rfl, hrd, hcap⟩ := id hlv
  obtain ⟨q, off, lc', hv', hcell⟩ := hrd.cell (by simp)
  simp only [Value.slice.injEq] at hv'
  obtain ⟨rfl, -, rfl⟩ := hv'
  have cq : w.cell? ⟨q, off, none⟩ = some (.int .i64 b) := hcell 0 _ rfl
  simp only [List.length_cons] at c2
  have NX := hid (rgwnext hw)
  have H := hid hs
  have E := hid hw
  have HB := hid hF
  have HX := hid hx
  have LV := hid hlv
  have CAP := hid hcap
  clear hs hw hF hx hlv hrd hcell hcap
  have ws1 : IntKind.u64.wrap (1 - (side : Int)) = 1 - side := by rw [IntKind.wrap_u64]; omega
  go_enter Try.func107, Try.ntmps107
  go_wp2_with fail
  refine NX.out.mono ?_
  rintro e w' ⟨rfl, rfl⟩
  go_wp2
  go_quiet (fail)
  clear c0 c1 c2 c3 c4 c5 k0 k1 cq
  obtain ⟨W, hW⟩ : ∃ W, W = w.drewN nq := ⟨_, rfl⟩
  have kW : Keep Nil w W := by rw [hW]; exact (Keep.refl Nil w).drewN nq
  rw [← hW]
  clear hW
  have KW := hid kW
  have HS := hid (H.out.quiet kW)
  have EW := hid (show RGWaitAt W wb h t _ side _ _ from kW.at E.out (fun h => h))
  clear kW
  obtain ⟨c0, c1, c2, c3, c4, c5⟩ := EW.out.cells
  obtain ⟨k0, k1, -⟩ := HS.out.eng.top
  have KD := hid ((Keep.refl Nil W).drew)
  have HA := hid (rgat_any (w := W.drew) (h := h) (base := base) b 0 k1 b0 b1 hb (by omega))
  rw [show base + 4 * (b : Int) + 0 = base + 4 * b by omega] at HA
  have HL := hid (rstore_ok (HS.out.mem.keep KD.out (fun _ _ h => h)) t (base + 4 * b) x (1 - (side : Int)) t0 t1 (by omega) HX.out hlog)
  go_wp2
  go_region_held3 (fun w' => w'.cell? ⟨wb, 0, none⟩ = some (.pointer (some ⟨h, 0, none⟩)) ∧ w'.cell? ⟨wb, 1, none⟩ = some (.int .i64 t) ∧ w'.cell? ⟨wb, 3, none⟩ = some (.int .u64 side)) (go_keep)
    (first
      | (go_at_call 101; (with_reducible refine HA.out.mono ?_); rintro e wA ⟨rfl, rfl⟩)
      | (go_at_call 115; (with_reducible refine HL.out.mono ?_); rintro e w1 ⟨rfl, F1, hm1, hk1, hf1⟩; have hE1 : RGWaitAt w1 wb h t _ side _ _ := hk1.at (KD.out.at EW.out (fun h => h)) HB.out; obtain ⟨d0, d1, d2, d3, d4, d5⟩ := hE1.cells; have z2 : w1.frozen? ⟨wb, 2, none⟩ = false := free_of hE1 2; have z3 : w1.frozen? ⟨wb, 3, none⟩ = false := free_of hE1 3; have z4 : w1.frozen? ⟨wb, 4, none⟩ = false := free_of hE1 4; have z5 : w1.frozen? ⟨wb, 5, none⟩ = false := free_of hE1 5; have M1 := hid hm1; have K1 := hid hk1; have F1' := hid hf1; have E1 := hid hE1; clear hm1 hk1 hf1 hE1))
  clear HA HL c0 c1 c2 c3 c4 c5 k0 k1
  have HR := hid (rgw_mk H.out E.out HB.out KW.out (KD.out.mono (T := G) (fun _ _ h => h.elim)) M1.out K1.out F1'.out (set_same (i := 4) (set_same (i := 5) E1.out (.int .u8 19)) (.bool true)) (Keep.setCell (Keep.setCell (Keep.refl (fun k => k = wb) w1) (.inl rfl) _) (.inl rfl) _))
  clear M1 K1 F1' EW HS KW KD H E E1
  go_wp2
  go_ret2
  exact ⟨rfl, HR.out⟩
def RGWUnTo (w : World) (h rb : Nat) (G : Nat → Prop) (base : Int) (n : Nat) (sl : List RSl) (ws : List Int) (log : List Acc) (wb : Nat) (t : Int) (lv : Value) (rest : List Nat) (side : Nat) (tu : Bool) (w' : World) : Prop :=
  ∃ lv', RGWStTo w h rb G base n sl ws log wb t lv' side tu (if rest = [] then 0 else 2) w' ∧ RLv w lv' rest ∧ ∀ k, lv'.ownBlock = some k → lv.ownBlock = some k
set_option maxRecDepth 100000 in
set_option maxHeartbeats 4000000 in
theorem rgw_unlock (hs : RGSys w h rb G base n sl ws log) (hw : RGWaitAt w wb h t lv side tu 3) (hF : ¬ G wb) (hlv : RLv w lv (b :: rest)) (hside : side < 2) (hb : b < 1000) (t0 : 0 ≤ t) (t1 : t < 64) (b0 : 0 ≤ base) (b1 : base < 1000000) (hx : ws[(base + 4 * b + 3).toNat]? = some (t + 1)) (hlog : log.length < 1000000000000) :
    Calls Try.prog 107 #[rptr wb] w fun e w' => e = .returned (.tuple #[.int .u8 3, .bool (if rest = [] then true else false)]) ∧ RGWUnTo w h rb G base n sl (ws.set (base + 4 * b + 3).toNat 0) (log ++ [⟨t, base + 4 * b + 3, 2, t + 1, 0, false⟩]) wb t lv rest side tu w' := by
  obtain ⟨c0, c1, c2, c3, c4, c5⟩ := hw.cells
  obtain ⟨k0, k1, -⟩ := hs.eng.top
  obtain ⟨la, lc, rfl, hrd, hcap⟩ := id hlv
  obtain ⟨q, off, lc', hv', hcell⟩ := hrd.cell (by simp)
  simp only [Value.slice.injEq] at hv'
  obtain ⟨rfl, -, rfl⟩ := hv'
  have cq : w.cell? ⟨q, off, none⟩ = some (.int .i64 b) := hcell 0 _ rfl
  simp only [List.length_cons] at c2
  have NX := hid (rgwnext hw)
  have H := hid hs
  have E := hid hw
  have HB := hid hF
  have HX := hid hx
  have LV := hid hlv
  have CAP := hid hcap
  clear hs hw hF hx hlv hrd hcell hcap
  obtain ⟨A, hA⟩ : ∃ A : Option Addr, A = if lc = 1 then some ⟨q, off, none⟩ else some ⟨q, off + 1, none⟩ := ⟨_, rfl⟩
  obtain ⟨C, hC⟩ : ∃ C, C = lc - 1 := ⟨_, rfl⟩
  have hlv2 : Value.slice A rest.length C = Value.slice (if lc = 1 then some ⟨q, off, none⟩ else some ⟨q, off + 1, none⟩) rest.length (lc - 1) := by rw [hA, hC]
  have hL : RLv w (.slice A rest.length C) rest := by
    obtain ⟨_, _, hv, hr, hc⟩ := LV.out
    simp only [Value.slice.injEq] at hv
    obtain ⟨rfl, -, rfl⟩ := hv
    have htl := hr
    rw [show nums (b :: rest) = .int .i64 b :: nums rest from rfl] at htl
    refine ⟨_, _, hlv2, ?_, by simp only [List.length_cons] at hc; omega⟩
    rw [hlv2]
    by_cases h1 : lc = 1
    · have h0 : rest = [] := List.eq_nil_of_length_eq_zero (by simp only [List.length_cons] at hc; omega)
      subst h0
      rw [if_pos h1]
      exact ⟨_, _, rfl, rfl, .inr (.inr ⟨⟨_, rfl⟩, rfl⟩)⟩
    · rw [if_neg h1]
      obtain ⟨a', c', hv2, hl2, hcase⟩ := htl
      simp only [Value.slice.injEq] at hv2
      obtain ⟨rfl, -, rfl⟩ := hv2
      rcases hcase with ⟨h0, -⟩ | ⟨q', off', hq, hcell⟩ | ⟨-, h0⟩
      · cases h0
      · simp only [Option.some.injEq, Addr.mk.injEq, and_true] at hq
        obtain ⟨rfl, rfl⟩ := hq
        refine ⟨_, _, rfl, by simpa using hl2, .inr (.inl ⟨_, _, rfl, fun j u hu => ?_⟩)⟩
        rw [show off + 1 + j = off + (j + 1) by omega]
        exact hcell (j + 1) u (by simpa using hu)
      · simp at h0
  have hown : ∀ k, (Value.slice A rest.length C).ownBlock = some k → (Value.slice (some ⟨q, off, none⟩) (b :: rest).length lc).ownBlock = some k := fun k hk => by
    rw [hlv2] at hk
    by_cases h1 : lc = 1
    · rw [if_pos h1] at hk; simpa [Value.ownBlock] using hk
    · rw [if_neg h1] at hk; simpa [Value.ownBlock] using hk
  have hsl : ∀ W : World, (Instr.slice 39 (.slice (some ⟨q, off, none⟩) (rest.length + 1) lc) (some (.int .i64 1)) none none).run Try.prog W = .ok (.slice A rest.length C) W := fun W => by
    obtain ⟨i, hi, hz, hsize, hby⟩ := info_parts infoInt
    simp [Instr.slice, run_underlying Try.underlying39, Instr.sliceBounds, Instr.sliceBound, asIntOf, sizeOf, typeInfo, hi, hsize, Result.andThen, hlv2, addr_add, show (1 : Int) ≤ (rest.length : Int) + 1 by omega]
  have HL' := hid hL
  have HOWN := hid hown
  have HSL := hid hsl
  obtain ⟨em, hem⟩ : ∃ em : Bool, ((rest.length : Int) == 0) = em := ⟨_, rfl⟩
  have HEM := hid (show (if rest = [] then true else false) = em ∧ (if rest = [] then (0 : Int) else 2) = if em = true then 0 else 2 by
    rw [← hem]
    cases rest with
    | nil => exact ⟨rfl, rfl⟩
    | cons x l => simp; omega)
  rw [HEM.out.1]
  clear hlv2 hL hown hsl hA hC
  go_enter Try.func107, Try.ntmps107
  go_wp2_with fail
  refine NX.out.mono ?_
  rintro e w' ⟨rfl, rfl⟩
  go_wp2
  go_quiet (fail)
  clear c0 c1 c2 c3 c4 c5 k0 k1 cq
  obtain ⟨W, hW⟩ : ∃ W, W = w.drewN nq := ⟨_, rfl⟩
  have kW : Keep Nil w W := by rw [hW]; exact (Keep.refl Nil w).drewN nq
  rw [← hW]
  clear hW
  have KW := hid kW
  have HS := hid (H.out.quiet kW)
  have EW := hid (show RGWaitAt W wb h t _ side _ _ from kW.at E.out (fun h => h))
  clear kW
  obtain ⟨c0, c1, c2, c3, c4, c5⟩ := EW.out.cells
  obtain ⟨k0, k1, -⟩ := HS.out.eng.top
  have KD := hid ((Keep.refl Nil W).drew)
  have HA := hid (rgat_any (w := W.drew) (h := h) (base := base) b 3 k1 b0 b1 hb (by omega))
  rw [show base + 4 * (b : Int) + 3 = base + 4 * b + 3 by omega] at HA
  have HL := hid (rstore_ok (HS.out.mem.keep KD.out (fun _ _ h => h)) t (base + 4 * b + 3) (t + 1) 0 t0 t1 (by omega) HX.out hlog)
  go_wp2
  go_region_held3 (fun w' => w'.cell? ⟨wb, 0, none⟩ = some (.pointer (some ⟨h, 0, none⟩)) ∧ w'.cell? ⟨wb, 1, none⟩ = some (.int .i64 t) ∧ w'.cell? ⟨wb, 3, none⟩ = some (.int .u64 side)) (go_keep)
    (first
      | (go_at_call 101; (with_reducible refine HA.out.mono ?_); rintro e wA ⟨rfl, rfl⟩)
      | (go_at_call 115; (with_reducible refine HL.out.mono ?_); rintro e w1 ⟨rfl, F1, hm1, hk1, hf1⟩; have hE1 : RGWaitAt w1 wb h t _ side _ _ := hk1.at (KD.out.at EW.out (fun h => h)) HB.out; obtain ⟨d0, d1, d2, d3, d4, d5⟩ := hE1.cells; have z2 : w1.frozen? ⟨wb, 2, none⟩ = false := free_of hE1 2; have z3 : w1.frozen? ⟨wb, 3, none⟩ = false := free_of hE1 3; have z4 : w1.frozen? ⟨wb, 4, none⟩ = false := free_of hE1 4; have z5 : w1.frozen? ⟨wb, 5, none⟩ = false := free_of hE1 5; have M1 := hid hm1; have K1 := hid hk1; have F1' := hid hf1; have E1 := hid hE1; clear hm1 hk1 hf1 hE1))
  clear HA HL c0 c1 c2 c3 c4 c5 k0 k1
  have hsl := HSL.out
  simp only [List.length_cons] at d2
  have E4 := hid (show RGWaitAt ((w1.setCell ⟨wb, 2, none⟩ (.slice A rest.length C)).setCell ⟨wb, 5, none⟩ (.int .u8 2)) wb h t (.slice A rest.length C) side tu 2 from set_same (i := 5) (set_same (i := 2) E1.out (.slice A rest.length C)) (.int .u8 2))
  obtain ⟨f0, f1, f2, f3, f4, f5⟩ := E4.out.cells
  have y5 : ((w1.setCell ⟨wb, 2, none⟩ (.slice A rest.length C)).setCell ⟨wb, 5, none⟩ (.int .u8 2)).frozen? ⟨wb, 5, none⟩ = false := free_of E4.out 5
  have HR := hid (rgw_mk H.out E.out HB.out KW.out (KD.out.mono (T := G) (fun _ _ h => h.elim)) M1.out K1.out F1'.out E4.out (Keep.setCell (Keep.setCell (Keep.refl (fun k => k = wb) w1) (.inl rfl) _) (.inl rfl) _))
  have HR2 := hid (rgw_mk H.out E.out HB.out KW.out (KD.out.mono (T := G) (fun _ _ h => h.elim)) M1.out K1.out F1'.out (show RGWaitAt (((w1.setCell ⟨wb, 2, none⟩ (.slice A rest.length C)).setCell ⟨wb, 5, none⟩ (.int .u8 2)).setCell ⟨wb, 5, none⟩ (.int .u8 0)) wb h t (.slice A rest.length C) side tu 0 from set_same (i := 5) E4.out (.int .u8 0)) (Keep.setCell (Keep.setCell (Keep.setCell (Keep.refl (fun k => k = wb) w1) (.inl rfl) _) (.inl rfl) _) (.inl rfl) _))
  clear M1 K1 F1' EW HS KW KD H E E1 E4
  cases em with
  | true =>
    go_wp2
    go_ret2
    exact ⟨rfl, _, by rw [HEM.out.2]; exact HR2.out, HL'.out, HOWN.out⟩
  | false =>
    go_wp2
    go_ret2
    exact ⟨rfl, _, by rw [HEM.out.2]; exact HR.out, HL'.out, HOWN.out⟩
end
end Go.Proofs.Ytihgfklajhhikaa
