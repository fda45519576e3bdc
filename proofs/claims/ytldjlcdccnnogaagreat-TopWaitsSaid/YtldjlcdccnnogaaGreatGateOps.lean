/- gate: thread, slot, bucket, Enter, Exit, Open and the operation Enter: contracts. -/
import Derived.Test.YtldjlcdccnnogaaGreatGate0
import Derived.Test.YtldjlcdccnnogaaGreatIMap
import Derived.Test.YtldjlcdccnnogaaGreatLatch
import Derived.Test.YtldjlcdccnnogaaGreatBkt
import Derived.StillTailTactics
import Derived.Deep.RegionHeld3
set_option linter.unusedVariables false
set_option linter.unusedSimpArgs false
namespace Go.Proofs.YtldjlcdccnnogaaGreat
open Go.RowKit Go.Lf

theorem gtype_ne {w : World} {b c : Nat} {x y : Array Value} {s t : TypeId} (h : w.heap[b]? = some (.cells x s (0, 0))) (k : w.heap[c]? = some (.cells y t (0, 0))) (hst : s ≠ t) : b ≠ c := by
  intro e; subst e; rw [h] at k
  simp only [Option.some.injEq, Obj.cells.injEq] at k
  exact hst k.2.1

/-- The engine's own blocks. -/
structure GEngAt (w : World) (g r mb : Nat) (base : Int) (n : Nat) (ml : List (Int × Value)) : Prop where
  head : w.heap[g]? = some (.cells #[.pointer (some ⟨mb, 0, none⟩), .int .i64 base, .int .i64 n, .map (some r)] 202 (0, 0))
  map : IMap .i64 w r ml
/-- A section: the address of its count, whether it is entered. -/
def SecAt (w : World) (sb : Nat) (c : Int) (e : Bool) : Prop := w.heap[sb]? = some (.cells #[.int .i64 c, .bool e] 294 (0, 0))
/-- An operation that enters: the bucket's words begin at a. -/
def GEnterAt (w : World) (eb mb : Nat) (t a : Int) (sb : Nat) : Prop :=
  w.heap[eb]? = some (.cells #[.pointer (some ⟨mb, 0, none⟩), .int .i64 t, .int .i64 a, .int .i64 (a + 1), .int .i64 (a + 2), .int .i64 (a + 3), .pointer (some ⟨sb, 0, none⟩)] 298 (0, 0))
/-- A pointer to a block's head. -/
abbrev ptr (b : Nat) : Value := .pointer (some ⟨b, 0, none⟩)

section
variable {w : World} {g r mb : Nat} {F : Nat → Prop} {base : Int} {n : Nat} {ml : List (Int × Value)} {ws : List Int} {log : List Acc}
theorem GEngAt.keep {w' : World} {S : Nat → Prop} (h : GEngAt w g r mb base n ml) (hk : Keep S w w') (h1 : ¬ S g) (h2 : ¬ S r) : GEngAt w' g r mb base n ml := ⟨hk.at h.head h1, h.map.keep hk h2⟩
theorem GEngAt.cells (h : GEngAt w g r mb base n ml) : w.cell? ⟨g, 0, none⟩ = some (ptr mb) ∧ w.cell? ⟨g, 1, none⟩ = some (.int .i64 base) ∧ w.cell? ⟨g, 2, none⟩ = some (.int .i64 n) ∧ w.cell? ⟨g, 3, none⟩ = some (.map (some r)) := by
  refine ⟨?_, ?_, ?_, ?_⟩ <;> (rw [cell_of h.head]; rfl)

set_option maxHeartbeats 400000 in
theorem gthread_nil (t : Int) : Calls Tryz.prog 164 #[.pointer none, .int .i64 t] w fun e w' => e = .returned (.int .i64 1) ∧ w = w' := by
  go_enter Tryz.func164, Tryz.ntmps164
  go_wp2
  go_ret
  exact ⟨rfl, rfl⟩
set_option maxHeartbeats 400000 in
theorem gthread_no (g : Nat) (t : Int) (h : t < 0 ∨ 64 ≤ t) : Calls Tryz.prog 164 #[ptr g, .int .i64 t] w fun e w' => e = .returned (.int .i64 2) ∧ w = w' := by
  by_cases h1 : t < 0
  · have d1 : decide (t < 0) = true := decide_eq_true h1
    clear h h1
    go_enter Tryz.func164, Tryz.ntmps164
    go_wp2
    go_ret
    exact ⟨rfl, rfl⟩
  · have d1 : decide (t < 0) = false := decide_eq_false h1
    have d2 : decide (64 ≤ t) = true := decide_eq_true (by omega)
    clear h h1
    go_enter Tryz.func164, Tryz.ntmps164
    go_wp2
    go_ret
    exact ⟨rfl, rfl⟩
set_option maxHeartbeats 400000 in
theorem gthread_ok (g : Nat) (t : Int) (h0 : 0 ≤ t) (h1 : t < 64) : Calls Tryz.prog 164 #[ptr g, .int .i64 t] w fun e w' => e = .returned (.int .i64 0) ∧ w = w' := by
  have d1 : decide (t < 0) = false := decide_eq_false (by omega)
  have d2 : decide (64 ≤ t) = false := decide_eq_false (by omega)
  go_enter Tryz.func164, Tryz.ntmps164
  go_wp2
  go_ret
  exact ⟨rfl, rfl⟩

/-- The error of a thread and a slot. -/
def gsErr (t s : Int) : Int := if t < 0 ∨ 64 ≤ t then 2 else if s < 0 ∨ 64 ≤ s then 3 else 0
theorem gsErr_zero {t s : Int} (h : gsErr t s = 0) : (0 ≤ t ∧ t < 64) ∧ 0 ≤ s ∧ s < 64 := by
  unfold gsErr at h
  split at h
  · omega
  · split at h <;> omega
set_option maxHeartbeats 400000 in
theorem gslot_nil (t s : Int) : Calls Tryz.prog 160 #[.pointer none, .int .i64 t, .int .i64 s] w fun e w' => e = .returned (.int .i64 1) ∧ w = w' := by
  go_enter Tryz.func160, Tryz.ntmps160
  go_wp2_with fail
  refine (gthread_nil t).mono ?_
  rintro e w' ⟨rfl, rfl⟩
  go_wp2
  go_ret
  exact ⟨rfl, rfl⟩
set_option maxHeartbeats 1000000 in
theorem gslot_any (g : Nat) (t s : Int) : Calls Tryz.prog 160 #[ptr g, .int .i64 t, .int .i64 s] w fun e w' => e = .returned (.int .i64 (gsErr t s)) ∧ w = w' := by
  by_cases h : t < 0 ∨ 64 ≤ t
  · rw [show gsErr t s = 2 from if_pos h]
    have HT := hid (@gthread_no w g t h)
    clear h
    go_enter Tryz.func160, Tryz.ntmps160
    go_wp2_with fail
    refine HT.out.mono ?_
    rintro e w' ⟨rfl, rfl⟩
    go_wp2
    go_ret
    exact ⟨rfl, rfl⟩
  have HT := hid (@gthread_ok w g t (by omega) (by omega))
  by_cases h1 : s < 0
  · rw [show gsErr t s = 3 from (if_neg h).trans (if_pos (.inl h1))]
    have d1 : decide (s < 0) = true := decide_eq_true h1
    clear h h1
    go_enter Tryz.func160, Tryz.ntmps160
    go_wp2_with fail
    refine HT.out.mono ?_
    rintro e w' ⟨rfl, rfl⟩
    go_wp2
    go_ret
    exact ⟨rfl, rfl⟩
  have d1 : decide (s < 0) = false := decide_eq_false h1
  by_cases h2 : 64 ≤ s
  · rw [show gsErr t s = 3 from (if_neg h).trans (if_pos (.inr h2))]
    have d2 : decide (64 ≤ s) = true := decide_eq_true h2
    clear h h1 h2
    go_enter Tryz.func160, Tryz.ntmps160
    go_wp2_with fail
    refine HT.out.mono ?_
    rintro e w' ⟨rfl, rfl⟩
    go_wp2
    go_ret
    exact ⟨rfl, rfl⟩
  · rw [show gsErr t s = 0 from (if_neg h).trans (if_neg (by omega))]
    have d2 : decide (64 ≤ s) = false := decide_eq_false h2
    clear h h1 h2
    go_enter Tryz.func160, Tryz.ntmps160
    go_wp2_with fail
    refine HT.out.mono ?_
    rintro e w' ⟨rfl, rfl⟩
    go_wp2
    go_ret
    exact ⟨rfl, rfl⟩

/-! bucket. -/
def bkRow (a : Int) (k : Nat) : List Value := (List.range 4).map fun i => .int .i64 (if i < k then a + i else 0)
theorem bkRow_set (a : Int) (k : Nat) (hk : k < 4) : (bkRow a k).set k (.int .i64 (a + k)) = bkRow a (k + 1) := by
  have : k = 0 ∨ k = 1 ∨ k = 2 ∨ k = 3 := by omega
  rcases this with rfl | rfl | rfl | rfl <;> simp [bkRow, List.range_succ]
theorem sizeBk : (Tryz.prog.info? 295).map (·.size) = some 4 := by kernel_rfl
set_option maxRecDepth 100000 in
set_option maxHeartbeats 2000000 in
theorem gbucket_ok (b : Nat) (hc : w.cell? ⟨g, 1, none⟩ = some (.int .i64 base)) (b0 : 0 ≤ base) (b1 : base < 1000000) (hb : b < 1000) :
    Calls Tryz.prog 162 #[ptr g, .int .i64 b] w fun e w' => e = .returned (.agg #[.int .i64 (base + 4 * b), .int .i64 (base + 4 * b + 1), .int .i64 (base + 4 * b + 2), .int .i64 (base + 4 * b + 3)]) ∧ Keep Nil w w' := by
  have hlt := World.block_lt_of_cell? w _ hc
  simp only at hlt
  go_enter Tryz.func162, Tryz.ntmps162
  go_wp2
  go_loopw [7] (fun i wr => ∃ k : Nat, k ≤ 4 ∧ i = .int .i64 k ∧ Hid (wr.heap[w.heap.size + 1]? = some (.cells (bkRow (base + 4 * b) k).toArray 295 (0, 0)) ∧ wr.heap[w.heap.size]? = some (.cells (bkRow 0 0).toArray 295 (0, 0)) ∧ Keep Nil w wr)) (fun i _ => 4 - (intOf i).toNat)
  case atStart =>
    refine ⟨0, by omega, rfl, hid ⟨?_, ?_, (((Keep.refl Nil w).alloc _).alloc _)⟩⟩
    · have := heap_alloc_new (w.alloc (.cells #[.int .i64 0, .int .i64 0, .int .i64 0, .int .i64 0] 295)) (.cells #[.int .i64 0, .int .i64 0, .int .i64 0, .int .i64 0] 295)
      rw [World.size_alloc] at this
      exact this
    · exact alloc_old (heap_alloc_new w _) _
  case round =>
    obtain ⟨k, hk, rfl, HR⟩ := hrel
    have hcc : wr.cell? ⟨g, 1, none⟩ = some (.int .i64 base) := HR.out.2.2.cell hc (fun h => h)
    by_cases hlt4 : k < 4
    · have hx := cell_of HR.out.1 k
      have hxv : (bkRow (base + 4 * b) k).toArray[k]? = some (.int .i64 0) := by
        have : k = 0 ∨ k = 1 ∨ k = 2 ∨ k = 3 := by omega
        rcases this with rfl | rfl | rfl | rfl <;> rfl
      rw [hxv] at hx
      have hf := free_of HR.out.1 k
      have HN := hid (show (fun wz : World => wz.heap[w.heap.size + 1]? = some (.cells (bkRow (base + 4 * b) (k + 1)).toArray 295 (0, 0)) ∧ wz.heap[w.heap.size]? = some (.cells (bkRow 0 0).toArray 295 (0, 0)) ∧ Keep Nil w wz) (wr.setCell ⟨w.heap.size + 1, k, none⟩ (.int .i64 (base + 4 * b + k))) from
        ⟨by rw [set_same HR.out.1, ← bkRow_set _ k hlt4]; simp, set_other HR.out.2.1 (by simp) _, Keep.setCell HR.out.2.2 (.inr (by simp)) _⟩)
      clear hxv HR hc
      go_wp2
      go_roundw
      case rel => exact ⟨k + 1, by omega, by go_num, HN⟩
      case measure => simp [intOf]; omega
    · obtain rfl : k = 4 := by omega
      have x0 := cell_of HR.out.1 0
      have x1 := cell_of HR.out.1 1
      have x2 := cell_of HR.out.1 2
      have x3 := cell_of HR.out.1 3
      rw [show (bkRow (base + 4 * b) 4).toArray[0]? = some (.int .i64 (base + 4 * b)) by simp [bkRow, List.range_succ]] at x0
      rw [show (bkRow (base + 4 * b) 4).toArray[1]? = some (.int .i64 (base + 4 * b + 1)) by simp [bkRow, List.range_succ]] at x1
      rw [show (bkRow (base + 4 * b) 4).toArray[2]? = some (.int .i64 (base + 4 * b + 2)) by simp [bkRow, List.range_succ]] at x2
      rw [show (bkRow (base + 4 * b) 4).toArray[3]? = some (.int .i64 (base + 4 * b + 3)) by simp [bkRow, List.range_succ]] at x3
      have y0 := cell_of HR.out.2.1 0
      have y1 := cell_of HR.out.2.1 1
      have y2 := cell_of HR.out.2.1 2
      have y3 := cell_of HR.out.2.1 3
      rw [show (bkRow 0 0).toArray[0]? = some (.int .i64 0) from rfl] at y0
      rw [show (bkRow 0 0).toArray[1]? = some (.int .i64 0) from rfl] at y1
      rw [show (bkRow 0 0).toArray[2]? = some (.int .i64 0) from rfl] at y2
      rw [show (bkRow 0 0).toArray[3]? = some (.int .i64 0) from rfl] at y3
      have f0 := free_of HR.out.2.1 0
      have f1 := free_of HR.out.2.1 1
      have f2 := free_of HR.out.2.1 2
      have f3 := free_of HR.out.2.1 3
      clear hc hcc hlt4 hk
      go_wp2
      have hh := set_same (i := 3) (set_same (i := 2) (set_same (i := 1) (set_same (i := 0) HR.out.2.1 (.int .i64 (base + 4 * b))) (.int .i64 (base + 4 * b + 1))) (.int .i64 (base + 4 * b + 2))) (.int .i64 (base + 4 * b + 3))
      (try simp only [Exit.inBlock, Exit.then])
      refine bodyPost_ret (results_cell_row rfl _ _ w.heap.size _ _ (0, 0) _ rfl hh Tryz.underlying295 rfl sizeBk) rfl ?_
      exact ⟨rfl, Keep.setCell (Keep.setCell (Keep.setCell (Keep.setCell HR.out.2.2 (.inr (Nat.le_refl _)) _) (.inr (Nat.le_refl _)) _) (.inr (Nat.le_refl _)) _) (.inr (Nat.le_refl _)) _⟩

/-! Enter. -/
/-- Where a beginning is refused. -/
def genErr (t s v : Int) (busy : Bool) : Int := if gsErr t s ≠ 0 then gsErr t s else if v < 0 ∨ 64 ≤ v then 2 else if busy then 8 else 0
theorem zsec (w : World) : (zeroValue 291).run Tryz.prog w = .ok (.pointer none) w := by kernel_rfl
theorem glook (h : IMap .i64 w r ml) (k : Int) : (Instr.lookup 200 (.map (some r)) (.int .i64 k) true).run Tryz.prog w = .ok (.tuple #[(mlook ml k).getD (.pointer none), .bool (mlook ml k).isSome]) w :=
  look_ok h Tryz.underlying200 Tryz.underlying3 (zsec w) k
set_option maxHeartbeats 1000000 in
theorem genter_err (h : GEngAt w g r mb base n ml) (t s v : Int) (he : genErr t s v (mlook ml s).isSome ≠ 0) :
    Calls Tryz.prog 156 #[ptr g, .int .i64 t, .int .i64 s, .int .i64 v] w fun e w' => e = .returned (.tuple #[.pointer none, .int .i64 (genErr t s v (mlook ml s).isSome)]) ∧ w = w' := by
  have HS := hid (@gslot_any w g t s)
  by_cases h1 : gsErr t s = 0
  · rw [h1] at HS
    by_cases h2 : v < 0
    · rw [show genErr t s v (mlook ml s).isSome = 2 from (if_neg (by simpa using h1)).trans (if_pos (.inl h2))]
      have d1 : decide (v < 0) = true := decide_eq_true h2
      clear h he h1 h2
      go_enter Tryz.func156, Tryz.ntmps156
      go_wp2_with fail
      refine HS.out.mono ?_
      rintro e w' ⟨rfl, rfl⟩
      go_wp2
      go_ret2
      exact ⟨rfl, rfl⟩
    have d1 : decide (v < 0) = false := decide_eq_false h2
    by_cases h3 : 64 ≤ v
    · rw [show genErr t s v (mlook ml s).isSome = 2 from (if_neg (by simpa using h1)).trans (if_pos (.inr h3))]
      have d2 : decide (64 ≤ v) = true := decide_eq_true h3
      clear h he h1 h2 h3
      go_enter Tryz.func156, Tryz.ntmps156
      go_wp2_with fail
      refine HS.out.mono ?_
      rintro e w' ⟨rfl, rfl⟩
      go_wp2
      go_ret2
      exact ⟨rfl, rfl⟩
    have d2 : decide (64 ≤ v) = false := decide_eq_false h3
    have hb : (mlook ml s).isSome = true := by
      cases hb : (mlook ml s).isSome with
      | true => rfl
      | false => exact absurd ((if_neg (by simpa using h1)).trans ((if_neg (by omega)).trans (if_neg (by rw [hb]; decide)))) he
    rw [show genErr t s v (mlook ml s).isSome = 8 from (if_neg (by simpa using h1)).trans ((if_neg (by omega)).trans (if_pos hb))]
    have hl := glook h.map s
    rw [hb] at hl
    have c3 := h.cells.2.2.2
    clear h he h1 h2 h3 hb
    go_enter Tryz.func156, Tryz.ntmps156
    go_wp2_with fail
    refine HS.out.mono ?_
    rintro e w' ⟨rfl, rfl⟩
    go_wp2
    go_ret2
    exact ⟨rfl, rfl⟩
  · rw [show genErr t s v (mlook ml s).isSome = gsErr t s from if_pos h1]
    obtain ⟨q, hq⟩ : ∃ q, q = gsErr t s := ⟨_, rfl⟩
    rw [← hq] at HS h1 ⊢
    have hne : (q != 0) = true := bne_iff_ne.2 h1
    clear h he h1 hq
    go_enter Tryz.func156, Tryz.ntmps156
    go_wp2_with fail
    refine HS.out.mono ?_
    rintro e w' ⟨rfl, rfl⟩
    go_wp2
    go_ret2
    exact ⟨rfl, rfl⟩
/-- An Enter has begun: its block, its section's block. -/
def GEnterTo (w : World) (g r mb : Nat) (base : Int) (n : Nat) (ml : List (Int × Value)) (t s : Int) (b : Nat) (e : Ending) (w' : World) : Prop :=
  ∃ eb sb, e = .returned (.tuple #[ptr eb, .int .i64 0]) ∧ GEngAt w' g r mb base n (mput ml s (ptr sb)) ∧ GEnterAt w' eb mb t (base + 4 * b) sb ∧ SecAt w' sb (-1) false ∧ Keep (fun k => k = r) w w' ∧ w.heap.size ≤ eb ∧ w.heap.size ≤ sb
set_option maxRecDepth 100000 in
set_option maxHeartbeats 4000000 in
theorem genter_ok (h : GEngAt w g r mb base n ml) (t s : Int) (v : Nat) (he : genErr t s v (mlook ml s).isSome = 0) (b0 : 0 ≤ base) (b1 : base < 1000000) (n0 : 1 ≤ n) (n1 : n ≤ 16) :
    Calls Tryz.prog 156 #[ptr g, .int .i64 t, .int .i64 s, .int .i64 v] w (GEnterTo w g r mb base n ml t s (v % n)) := by
  have h1 : gsErr t s = 0 := by
    refine Classical.byContradiction fun h1 => ?_
    rw [show genErr t s v (mlook ml s).isSome = gsErr t s from if_pos h1] at he
    exact h1 he
  have h2 : v < 64 := by
    refine Classical.byContradiction fun h2 => ?_
    rw [show genErr t s v (mlook ml s).isSome = 2 from (if_neg (by simpa using h1)).trans (if_pos (by omega))] at he
    omega
  have h3 : (mlook ml s).isSome = false := by
    cases hb : (mlook ml s).isSome with
    | false => rfl
    | true => rw [show genErr t s v (mlook ml s).isSome = 8 from (if_neg (by simpa using h1)).trans ((if_neg (by omega)).trans (if_pos hb))] at he; omega
  have HS := hid (h1 ▸ @gslot_any w g t s)
  have d1 : decide ((v : Int) < 0) = false := decide_eq_false (by omega)
  have d2 : decide (64 ≤ (v : Int)) = false := decide_eq_false (by omega)
  have hl := glook h.map s
  rw [h3] at hl
  have HB := hid (fun (w : World) => @bucket_ok w v n h2 n0 n1)
  obtain ⟨c0, c1, c2, c3⟩ := h.cells
  have H := hid h
  have hmod : v % n < 1000 := by have := Nat.mod_lt v (show n > 0 by omega); omega
  generalize v % n = b at *
  have hg := lt_of_block h.head
  have kA : Keep Nil w (w.alloc (.cells #[.int .i64 (-1), .bool false] 294)) := (Keep.refl Nil w).alloc _
  have sA := heap_alloc_new w (.cells #[.int .i64 (-1), .bool false] 294)
  obtain ⟨W1, hrun, hm1, k1, z1⟩ := put_run (h.map.keep kA (fun h => h)) Tryz.underlying200 Tryz.underlying3 s (ptr w.heap.size)
  have hgr : g ≠ r := fun e => h.map.ne h.head e.symm
  have hsr : w.heap.size ≠ r := fun e => by have := h.map.lt; omega
  have HA : GEngAt W1 g r mb base n (mput ml s (ptr w.heap.size)) := ⟨k1.at (kA.at h.head (fun h => h)) hgr, hm1⟩
  have HSA : SecAt W1 w.heap.size (-1) false := k1.at sA hsr
  obtain ⟨e0, e1, e2, e3⟩ := HA.cells
  have HA' := hid HA
  have HS' := hid HSA
  have K1 := hid (kA.mono (T := fun k => k = r) (fun _ _ h => h.elim) |>.trans k1 (fun _ _ h => h))
  have Z1 := hid z1
  clear h he h1 h3 h2 HA HSA k1 kA sA hm1 z1 hgr hsr
  go_enter Tryz.func156, Tryz.ntmps156
  go_wp2_with fail
  refine HS.out.mono ?_
  rintro e w' ⟨rfl, rfl⟩
  go_wp2_with fail
  refine (HB.out _).mono ?_
  rintro e w' ⟨rfl, rfl⟩
  go_wp2
  have KD := hid ((Keep.refl Nil W1).drew)
  have E0 := hid e0
  have E1 := hid e1
  clear c0 c1 c2 c3 e1 e2 e3 hl hrun
  go_region_held3 (fun w' => w'.cell? ⟨g, 0, none⟩ = some (.pointer (some ⟨mb, 0, none⟩))) (go_keep)
    ((go_at_call 162; (with_reducible refine (gbucket_ok b (KD.out.cell E1.out (fun h => h)) b0 b1 hmod).mono ?_); rintro e w2 ⟨rfl, k2⟩; have q0 := k2.cell (KD.out.cell E0.out (fun h => h)) (fun h => h); have K2 := hid (KD.out.trans k2 (fun _ _ h => h)); clear k2))
  go_wp2
  go_ret2
  have k3 : Keep Nil W1 (w2.alloc (.cells #[.pointer (some ⟨mb, 0, none⟩), .int .i64 t, .int .i64 (base + 4 * b), .int .i64 (base + 4 * b + 1), .int .i64 (base + 4 * b + 2), .int .i64 (base + 4 * b + 3), .pointer (some ⟨w.heap.size, 0, none⟩)] 298)) := K2.out.alloc _
  exact ⟨w2.heap.size, w.heap.size, rfl, HA'.out.keep k3 (fun h => h) (fun h => h), heap_alloc_new w2 _, k3.at HS'.out (fun h => h), K1.out.trans k3 (fun _ _ h => h.elim), by have := K1.out.size; have := K2.out.size; omega, Nat.le_refl _⟩

/-! Exit. -/
set_option maxHeartbeats 1000000 in
theorem gexit_err (h : GEngAt w g r mb base n ml) (t s : Int) (he : gsErr t s ≠ 0) :
    Calls Tryz.prog 157 #[ptr g, .int .i64 t, .int .i64 s] w fun e w' => e = .returned (.tuple #[.int .u8 0, .int .i64 (gsErr t s)]) ∧ w = w' := by
  have HS := hid (@gslot_any w g t s)
  obtain ⟨q, hq⟩ : ∃ q, q = gsErr t s := ⟨_, rfl⟩
  rw [← hq] at HS he ⊢
  have hne : (q != 0) = true := bne_iff_ne.2 he
  clear h he hq
  go_enter Tryz.func157, Tryz.ntmps157
  go_wp2_with fail
  refine HS.out.mono ?_
  rintro e w' ⟨rfl, rfl⟩
  go_wp2
  go_ret2
  exact ⟨rfl, rfl⟩
set_option maxHeartbeats 1000000 in
theorem gexit_none (h : GEngAt w g r mb base n ml) (t s : Int) (he : gsErr t s = 0) (hn : mlook ml s = none) :
    Calls Tryz.prog 157 #[ptr g, .int .i64 t, .int .i64 s] w fun e w' => e = .returned (.tuple #[.int .u8 0, .int .i64 8]) ∧ w = w' := by
  have HS := hid (he ▸ @gslot_any w g t s)
  have hl := glook h.map s
  rw [hn] at hl
  simp only [Option.getD_none, Option.isSome_none] at hl
  have c3 := h.cells.2.2.2
  clear h he hn
  go_enter Tryz.func157, Tryz.ntmps157
  go_wp2_with fail
  refine HS.out.mono ?_
  rintro e w' ⟨rfl, rfl⟩
  go_wp2
  go_ret2
  exact ⟨rfl, rfl⟩
set_option maxHeartbeats 1000000 in
theorem gexit_begun {sb : Nat} {c : Int} (h : GEngAt w g r mb base n ml) (t s : Int) (he : gsErr t s = 0) (hn : mlook ml s = some (ptr sb)) (hs : SecAt w sb c false) :
    Calls Tryz.prog 157 #[ptr g, .int .i64 t, .int .i64 s] w fun e w' => e = .returned (.tuple #[.int .u8 0, .int .i64 8]) ∧ w = w' := by
  have HS := hid (he ▸ @gslot_any w g t s)
  have hl := glook h.map s
  rw [hn] at hl
  simp only [Option.getD_some, Option.isSome_some] at hl
  have c3 := h.cells.2.2.2
  have cs : w.cell? ⟨sb, 1, none⟩ = some (.bool false) := by rw [cell_of hs]; rfl
  clear h he hn hs
  go_enter Tryz.func157, Tryz.ntmps157
  go_wp2_with fail
  refine HS.out.mono ?_
  rintro e w' ⟨rfl, rfl⟩
  go_wp2
  go_ret2
  exact ⟨rfl, rfl⟩
/-- A section has been left. -/
def GExitTo (w : World) (g r mb : Nat) (base : Int) (n : Nat) (ml : List (Int × Value)) (F : Nat → Prop) (ws : List Int) (log : List Acc) (w' : World) : Prop :=
  ∃ F', MemAt w' mb F' ws log ∧ GEngAt w' g r mb base n ml ∧ Keep (fun k => F k ∨ k = r) w w' ∧ Foot w F F'
set_option maxRecDepth 100000 in
set_option maxHeartbeats 4000000 in
theorem gexit_ok {sb : Nat} (c : Nat) (x : Int) (hm : MemAt w mb F ws log) (h : GEngAt w g r mb base n ml) (fg : ¬ F g) (fr : ¬ F r) (t s : Int) (he : gsErr t s = 0) (hn : mlook ml s = some (ptr sb)) (hs : SecAt w sb c true) (fs : ¬ F sb)
    (hx : ws[c]? = some x) (x0 : 0 ≤ x) (x1 : x < 18446744073709551616) (hlog : log.length < 1000000000000) :
    Calls Tryz.prog 157 #[ptr g, .int .i64 t, .int .i64 s] w fun e w' => e = .returned (.tuple #[.int .u8 16, .int .i64 0]) ∧
      GExitTo w g r mb base n (mdel ml s) F (ws.set c (IntKind.u64.wrap (x + 18446744073709551615))) (log ++ [⟨t, c, 3, x, IntKind.u64.wrap (x + 18446744073709551615), false⟩]) w' := by
  obtain ⟨⟨t0, t1⟩, s0, s1⟩ := gsErr_zero he
  have HS := hid (he ▸ @gslot_any w g t s)
  have hl := glook h.map s
  rw [hn] at hl
  simp only [Option.getD_some, Option.isSome_some] at hl
  obtain ⟨c0, c1, c2, c3⟩ := h.cells
  have cs0 : w.cell? ⟨sb, 0, none⟩ = some (.int .i64 c) := by rw [cell_of hs]; rfl
  have cs1 : w.cell? ⟨sb, 1, none⟩ = some (.bool true) := by rw [cell_of hs]; rfl
  have H := hid h
  have HM := hid hm
  have HX := hid hx
  have FG := hid fg
  have FR := hid fr
  have FS := hid fs
  have KD := hid ((Keep.refl Nil w).drew)
  obtain ⟨su, hsu⟩ : ∃ su, su = IntKind.u64.wrap (x + 18446744073709551615) := ⟨_, rfl⟩
  have HSU := hid hsu
  rw [← hsu]
  clear h he hn hs hm hx fg fr fs c1 c2 hsu
  go_enter Tryz.func157, Tryz.ntmps157
  go_wp2_with fail
  refine HS.out.mono ?_
  rintro e w' ⟨rfl, rfl⟩
  go_wp2
  go_region_held3 (fun w' => w'.cell? ⟨g, 0, none⟩ = some (.pointer (some ⟨mb, 0, none⟩)) ∧ w'.cell? ⟨sb, 0, none⟩ = some (.int .i64 c)) (go_keep)
    ((go_at_call 163; (with_reducible refine (add_ok (HM.out.keep KD.out (fun _ _ h => h)) t c x 18446744073709551615 t0 t1 (by omega) (by simpa using HX.out) x0 x1 hlog).mono ?_); rintro e w2 ⟨rfl, hq⟩; rw [← HSU.out] at hq; obtain ⟨F2, hm2, k2, f2⟩ := hq; have q0 := k2.cell (KD.out.cell c0 (fun h => h)) FG.out; have q1 := k2.cell (KD.out.cell cs0 (fun h => h)) FS.out; have q3 := k2.cell (KD.out.cell c3 (fun h => h)) FG.out; have K2 := hid (KD.out.mono (T := F) (fun _ _ h => h.elim) |>.trans k2 (fun _ _ h => h)); have M2 := hid hm2; have F2' := hid f2; clear hm2 k2 f2))
  have E2 := H.out.keep K2.out FG.out FR.out
  obtain ⟨W3, hrun, hm3, k3, z3⟩ := del_run E2.map Tryz.underlying200 Tryz.underlying3 s
  have E3 := hid (show GEngAt W3 g r mb base n (mdel ml s) from ⟨k3.at E2.head (fun e => E2.map.ne E2.head e.symm), hm3⟩)
  have M3 := hid (M2.out.keep k3 (fun k hF e => by
    subst e
    rcases F2'.out k hF with h' | h'
    · exact FR.out h'
    · have h1 := H.out.map.lt; simp at h'; omega))
  have K3 := hid (K2.out.mono (T := fun k => F k ∨ k = r) (fun _ _ h => .inl h) |>.trans k3 (fun _ _ h => .inr h))
  have FF := hid (show Foot w F F2 from fun k hF => (F2'.out k hF).elim .inl (fun h => .inr (by simpa using h)))
  clear E2 hm3 k3 z3 K2 M2 F2' c0 cs0 cs1 q0 q1 hl
  go_wp2
  go_ret2
  exact ⟨rfl, F2, M3.out, E3.out, K3.out, FF.out⟩
end
end Go.Proofs.YtldjlcdccnnogaaGreat
