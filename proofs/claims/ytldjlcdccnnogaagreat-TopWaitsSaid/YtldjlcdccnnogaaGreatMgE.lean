
/- Each0, EachOps, EachOps2, EachEnt, EachOps3, EachOps4, EachSt, EachP, RgE, in one text. -/
import Derived.Test.YtldjlcdccnnogaaGreatKit
import Derived.Test.YtldjlcdccnnogaaGreatBase
import Derived.Test.YtldjlcdccnnogaaGreatMem
import Derived.Test.YtldjlcdccnnogaaGreatEachPlain
import Derived.Test.YtldjlcdccnnogaaGreatFuncNil
import Derived.StillTailTactics
import Derived.Deep.RegionHeld3
import Derived.BigQuiet
import Derived.Test.YtldjlcdccnnogaaGreatDomPlain
import Derived.Test.YtldjlcdccnnogaaGreatRgP

/-! each: Words and New, beside the reference: contracts of what errs. -/
namespace Go.Proofs.YtldjlcdccnnogaaGreat
open Go.RowKit Go.Lf
section
variable {w : World}
set_option maxHeartbeats 400000 in
theorem ewords_no (n : Int) (h : n < 1 ∨ 64 < n) : Calls Tryz.prog 53 #[.int .i64 n] w fun e w' => e = .returned (.tuple #[.int .i64 0, .int .i64 2]) ∧ w = w' := by
  by_cases h1 : n < 1
  · have d1 : decide (n < 1) = true := decide_eq_true h1
    clear h h1
    go_enter Tryz.func53, Tryz.ntmps53
    go_wp2
    go_ret2
    exact ⟨rfl, rfl⟩
  · have d1 : decide (n < 1) = false := decide_eq_false h1
    have d2 : decide (64 < n) = true := decide_eq_true (by omega)
    clear h h1
    go_enter Tryz.func53, Tryz.ntmps53
    go_wp2
    go_ret2
    exact ⟨rfl, rfl⟩
set_option maxHeartbeats 400000 in
theorem ewords_ok (n : Int) (h : 1 ≤ n ∧ n ≤ 64) : Calls Tryz.prog 53 #[.int .i64 n] w fun e w' => e = .returned (.tuple #[.int .i64 (2 * n), .int .i64 0]) ∧ w = w' := by
  have d1 : decide (n < 1) = false := decide_eq_false (by omega)
  have d2 : decide (64 < n) = false := decide_eq_false (by omega)
  obtain ⟨n0, n1⟩ := h
  go_enter Tryz.func53, Tryz.ntmps53
  go_wp2
  go_ret2
  exact ⟨rfl, rfl⟩
/-! New. -/
set_option maxHeartbeats 400000 in
theorem enew_nil (base n : Int) : Calls Tryz.prog 58 #[.pointer none, .int .i64 base, .int .i64 n] w fun e w' => e = .returned (.tuple #[.pointer none, .int .i64 1]) ∧ Keep Nil w w' := by
  go_enter Tryz.func58, Tryz.ntmps58
  go_wp2
  go_ret2
  exact ⟨rfl, (Keep.refl Nil w).alloc _⟩
variable {mb : Nat} {F : Nat → Prop} {ws : List Int} {log : List Acc}
set_option maxHeartbeats 1000000 in
theorem enew_err (h : MemAt w mb F ws log) (_hl : ws.length ≤ 65536) (base n : Int) (he : pErr 2 64 base n ws.length ≠ 0) :
    Calls Tryz.prog 58 #[.pointer (some ⟨mb, 0, none⟩), .int .i64 base, .int .i64 n] w fun e w' => e = .returned (.tuple #[.pointer none, .int .i64 (pErr 2 64 base n ws.length)]) ∧ Keep Nil w w' := by
  have H := hid h
  clear h
  by_cases hn : n < 1 ∨ 64 < n
  · rw [pErr_two hn]
    have HW := hid (fun (w : World) => @ewords_no w n hn)
    clear hn he
    go_enter Tryz.func58, Tryz.ntmps58
    go_wp2_with fail
    refine (HW.out _).mono ?_
    rintro e w' ⟨rfl, rfl⟩
    go_wp2
    go_ret2
    exact ⟨rfl, (Keep.refl Nil w).alloc _⟩
  · have h3 : base < 0 ∨ (ws.length : Int) < base + 2 * n := by
      apply Classical.byContradiction
      intro h'
      apply he
      unfold pErr
      rw [if_neg hn, if_neg h']
    rw [pErr_three hn h3]
    have HW := hid (fun (w : World) => @ewords_ok w n (by omega))
    by_cases h4 : base < 0
    · have d1 : decide (base < 0) = true := decide_eq_true h4
      clear hn he h3 h4
      go_enter Tryz.func58, Tryz.ntmps58
      go_wp2_with fail
      refine (HW.out _).mono ?_
      rintro e w' ⟨rfl, rfl⟩
      go_wp2
      go_ret2
      exact ⟨rfl, (Keep.refl Nil w).alloc _⟩
    have d1 : decide (base < 0) = false := decide_eq_false h4
    by_cases h5 : 65536 < base
    · have d2 : decide (65536 < base) = true := decide_eq_true h5
      clear hn he h3 h4 h5
      go_enter Tryz.func58, Tryz.ntmps58
      go_wp2_with fail
      refine (HW.out _).mono ?_
      rintro e w' ⟨rfl, rfl⟩
      go_wp2
      go_ret2
      exact ⟨rfl, (Keep.refl Nil w).alloc _⟩
    have d2 : decide (65536 < base) = false := decide_eq_false h5
    have HP := hid (peek_no (H.out.keep ((Keep.refl Nil w).alloc (.cells #[.int .i64 base] 3)) (fun _ _ h => h)) (base + 2 * n - 1) (by omega))
    have n0 : 1 ≤ n := by omega
    have n1 : n ≤ 64 := by omega
    clear hn he h3
    go_enter Tryz.func58, Tryz.ntmps58
    go_wp2_with fail
    refine (HW.out _).mono ?_
    rintro e w' ⟨rfl, rfl⟩
    go_wp2_with fail
    refine HP.out.mono ?_
    rintro e w' ⟨rfl, rfl⟩
    go_wp2
    go_ret2
    exact ⟨rfl, (Keep.refl Nil w).alloc _⟩

end
end Go.Proofs.YtldjlcdccnnogaaGreat

/-! each: the engine; New, Open: contracts. -/
namespace Go.Proofs.YtldjlcdccnnogaaGreat
open Go.RowKit Go.Lf

/-- The slots of the engine: number, begun. -/
def eCells (l : List (Int × Bool)) : List Value := l.flatMap fun p => [.int .u64 p.1, .bool p.2]
theorem eCells_len (l : List (Int × Bool)) : (eCells l).length = l.length * 2 := by
  induction l with
  | nil => rfl
  | cons a l ih => rw [eCells, List.flatMap_cons, List.length_append]; unfold eCells at ih; rw [ih]; simp; omega
theorem eCells_at {l : List (Int × Bool)} {k : Nat} {x : Int} {b : Bool} (h : l[k]? = some (x, b)) : (eCells l)[k * 2]? = some (.int .u64 x) ∧ (eCells l)[k * 2 + 1]? = some (.bool b) := by
  induction l generalizing k with
  | nil => simp at h
  | cons a l ih =>
    cases k with
    | zero =>
      simp at h; subst h
      exact ⟨rfl, rfl⟩
    | succ k =>
      have h1 := ih (k := k) (by simpa using h)
      rw [show (k + 1) * 2 = k * 2 + 1 + 1 by omega]
      exact h1

structure EEngAt (w : World) (g sb cb mb : Nat) (base : Int) (sl : List (Int × Bool)) : Prop where
  head : w.heap[g]? = some (.cells #[.pointer (some ⟨mb, 0, none⟩), .slice (some ⟨sb, 0, none⟩) sl.length sl.length, .func (.func 79) #[] #[.pointer (some ⟨cb, 0, none⟩)]] 199 (0, 0))
  slots : w.heap[sb]? = some (.cells (eCells sl).toArray 278 (0, 0))
  cap : w.heap[cb]? = some (.cells #[.int .i64 base] 3 (0, 0))
  n1 : g ≠ sb
  n2 : cb ≠ sb
theorem EEngAt.keep {w w' : World} {g sb cb mb : Nat} {base : Int} {sl : List (Int × Bool)} {S : Nat → Prop} (h : EEngAt w g sb cb mb base sl) (hk : Keep S w w') (h1 : ¬ S g) (h2 : ¬ S sb) (h3 : ¬ S cb) : EEngAt w' g sb cb mb base sl :=
  ⟨hk.at h.head h1, hk.at h.slots h2, hk.at h.cap h3, h.n1, h.n2⟩
theorem EEngAt.cells {w : World} {g sb cb mb : Nat} {base : Int} {sl : List (Int × Bool)} (h : EEngAt w g sb cb mb base sl) :
    w.cell? ⟨g, 0, none⟩ = some (.pointer (some ⟨mb, 0, none⟩)) ∧ w.cell? ⟨g, 1, none⟩ = some (.slice (some ⟨sb, 0, none⟩) sl.length sl.length) ∧ w.cell? ⟨g, 2, none⟩ = some (.func (.func 79) #[] #[.pointer (some ⟨cb, 0, none⟩)]) ∧ w.cell? ⟨cb, 0, none⟩ = some (.int .i64 base) := by
  refine ⟨?_, ?_, ?_, ?_⟩
  · rw [cell_of h.head]; rfl
  · rw [cell_of h.head]; rfl
  · rw [cell_of h.head]; rfl
  · rw [cell_of h.cap]; rfl
theorem EEngAt.slot {w : World} {g sb cb mb : Nat} {base : Int} {sl : List (Int × Bool)} (h : EEngAt w g sb cb mb base sl) {k : Nat} {x : Int} {b : Bool} (hx : sl[k]? = some (x, b)) :
    w.cell? ⟨sb, k * 2, none⟩ = some (.int .u64 x) ∧ w.cell? ⟨sb, k * 2 + 1, none⟩ = some (.bool b) := by
  obtain ⟨h1, h2⟩ := eCells_at hx
  constructor
  · rw [cell_of h.slots]; simpa using h1
  · rw [cell_of h.slots]; simpa using h2

theorem infoESlot : (Tryz.prog.info? 278).map (fun i => (i.zero, i.size, i.bytes)) = some (some (.agg #[.int .u64 0, .bool false]), 2, 16) := by kernel_rfl
theorem eslots_made (n : Nat) : madeCells (#[.int .u64 0, .bool false] : Array Value) (n * 2) = (eCells (List.replicate n (0, false))).toArray := by
  apply Array.ext'
  rw [madeCells, Array.toList_map, Array.toList_range]
  induction n with
  | zero => rfl
  | succ n ih =>
    have e : (n + 1) * 2 = n * 2 + 1 + 1 := by omega
    rw [e, List.range_succ, List.range_succ, List.replicate_succ', List.map_append, List.map_append, ih]
    have a0 : n * 2 % 2 = 0 := by omega
    have a1 : (n * 2 + 1) % 2 = 1 := by omega
    simp [eCells, a0, a1]

section
variable {w : World} {mb : Nat} {F : Nat → Prop} {ws : List Int} {log : List Acc}
def ENewTo (w : World) (mb : Nat) (base : Int) (n : Nat) (e : Ending) (w' : World) : Prop :=
  ∃ g sb cb, e = .returned (.tuple #[.pointer (some ⟨g, 0, none⟩), .int .i64 0]) ∧ EEngAt w' g sb cb mb base (List.replicate n (0, false)) ∧ Keep Nil w w' ∧ w.heap.size ≤ g ∧ w.heap.size ≤ sb ∧ w.heap.size ≤ cb

set_option maxHeartbeats 1000000 in
theorem enew_ok (h : MemAt w mb F ws log) (hl : ws.length ≤ 65536) (base : Int) (n : Nat) (he : pErr 2 64 base n ws.length = 0) :
    Calls Tryz.prog 58 #[.pointer (some ⟨mb, 0, none⟩), .int .i64 base, .int .i64 n] w (ENewTo w mb base n) := by
  obtain ⟨n0, n1, b0, b1⟩ := pErr_zero he
  obtain ⟨x, hx⟩ : ∃ x, ws[(base + 2 * n - 1).toNat]? = some x := ⟨_, List.getElem?_eq_getElem (by omega)⟩
  have HP := hid (peek_ok (h.keep ((Keep.refl Nil w).alloc (.cells #[.int .i64 base] 3)) (fun _ _ h => h)) (base + 2 * n - 1) x (by omega) hx)
  have HW := hid (fun (w : World) => @ewords_ok w n ⟨n0, n1⟩)
  have d1 : decide (base < 0) = false := decide_eq_false (by omega)
  have d2 : decide (65536 < base) = false := decide_eq_false (by omega)
  have b2 : base ≤ 65536 := by omega
  clear h hx he hl b1
  go_enter Tryz.func58, Tryz.ntmps58
  go_wp2_with fail
  refine (HW.out _).mono ?_
  rintro e w' ⟨rfl, rfl⟩
  go_wp2_with fail
  refine HP.out.mono ?_
  rintro e w' ⟨rfl, rfl⟩
  go_wp2_with (at_make; refine wpList_mk _ rfl _ _ 196 rfl 278 _ 2 16 Tryz.underlying196 infoESlot _ _ (n : Int) rfl rfl ?p0 ?p1 ?p2 ?_)
  case p0 => omega
  case p1 => omega
  case p2 => omega
  intro w1 hh hk hz
  have h0 := heap_alloc_new w (.cells #[.int .i64 base] 3)
  have HB := hid (hk.at h0 (fun h => h))
  have HH := hid hh
  have HK := hid (((Keep.refl Nil w).alloc _).trans hk (fun _ _ h => h))
  have HZ := hid hz
  clear hh hk hz h0
  go_wp2
  go_ret2
  have h2 := heap_alloc_new w1 (.cells #[.pointer (some ⟨mb, 0, none⟩), .slice (some ⟨w.heap.size + 1, 0, none⟩) n n, .func (.func 79) #[] #[.pointer (some ⟨w.heap.size, 0, none⟩)]] 199)
  have h1 := HH.out
  have hz := HZ.out
  rw [eslots_made] at h1
  (try simp only [World.size_alloc] at h1)
  (try simp only [World.size_alloc] at hz)
  refine ⟨_, _, _, rfl, ⟨by rw [List.length_replicate]; exact h2, alloc_old h1 _, alloc_old HB.out _, by omega, by omega⟩, HK.out.alloc _, by omega, by omega, Nat.le_refl _⟩

def RENewTo (w : World) (e : Ending) (w' : World) : Prop := ∃ g, e = .returned (.tuple #[.pointer (some ⟨g, 0, none⟩), .int .i64 0]) ∧ Keep Nil w w'
/-! Open. -/
variable {g sb cb : Nat} {base : Int} {sl : List (Int × Bool)}
def EOpenTo (w : World) (nums : List Int) (e : Ending) (w' : World) : Prop :=
  ∃ v, e = .returned v ∧ w'.ownsRow 0 3 1 v (fopens nums nums.length).length ((fopens nums nums.length).map (Value.int .i64)) ∧ Keep Nil w w' ∧ ∀ k, v.ownBlock = some k → w.heap.size ≤ k
end
end Go.Proofs.YtldjlcdccnnogaaGreat

/-! each: the methods of the engine: contracts. -/
namespace Go.Proofs.YtldjlcdccnnogaaGreat
open Go.RowKit Go.Lf

theorem type_ne {w : World} {b c : Nat} {x y : Array Value} {s t : TypeId} (h : w.heap[b]? = some (.cells x s (0, 0))) (k : w.heap[c]? = some (.cells y t (0, 0))) (hst : s ≠ t) : b ≠ c := by
  intro e; subst e; rw [h] at k
  simp only [Option.some.injEq, Obj.cells.injEq] at k
  exact hst k.2.1

/-- The engine and its memory. -/
structure ESys (w : World) (g sb cb mb : Nat) (F : Nat → Prop) (base : Int) (sl : List (Int × Bool)) (ws : List Int) (log : List Acc) : Prop where
  mem : MemAt w mb F ws log
  eng : EEngAt w g sb cb mb base sl
  f1 : ¬ F g
  f2 : ¬ F sb
  f3 : ¬ F cb
def ESysTo (w : World) (g sb cb mb : Nat) (F : Nat → Prop) (base : Int) (sl : List (Int × Bool)) (ws : List Int) (log : List Acc) (w' : World) : Prop :=
  ∃ F', ESys w' g sb cb mb F' base sl ws log ∧ Keep (fun k => F k ∨ k = sb) w w' ∧ Foot w F F'

section
variable {w : World} {g sb cb mb : Nat} {F : Nat → Prop} {base : Int} {sl : List (Int × Bool)} {ws : List Int} {log : List Acc}
theorem ESys.keep {w' : World} {S : Nat → Prop} (h : ESys w g sb cb mb F base sl ws log) (hk : Keep S w w') (hd : ∀ k, F k → ¬ S k) (h1 : ¬ S g) (h2 : ¬ S sb) (h3 : ¬ S cb) : ESys w' g sb cb mb F base sl ws log :=
  ⟨h.mem.keep hk hd, h.eng.keep hk h1 h2 h3, h.f1, h.f2, h.f3⟩
theorem ESys.quiet {w' : World} (h : ESys w g sb cb mb F base sl ws log) (hk : Keep Nil w w') : ESys w' g sb cb mb F base sl ws log := h.keep hk (fun _ _ h => h) (fun h => h) (fun h => h) (fun h => h)
theorem EEngAt.quiet {w' : World} (h : EEngAt w g sb cb mb base sl) (hk : Keep Nil w w') : EEngAt w' g sb cb mb base sl := h.keep hk (fun h => h) (fun h => h) (fun h => h)
theorem eeng_num (h : EEngAt w g sb cb mb base sl) {i : Nat} {x : Int} {b : Bool} (hx : sl[i]? = some (x, b)) (y : Int) : EEngAt (w.setCell ⟨sb, i * 2, none⟩ (.int .u64 y)) g sb cb mb base (sl.set i (y, b)) := by
  have k : Keep (fun k => k = sb) w (w.setCell ⟨sb, i * 2, none⟩ (.int .u64 y)) := Keep.setCell (Keep.refl (fun k => k = sb) w) (.inl rfl) _
  refine ⟨by rw [List.length_set]; exact k.at h.head h.n1, ?_, k.at h.cap h.n2, h.n1, h.n2⟩
  rw [set_same h.slots, ← show (eCells sl).set (i * 2 + 0) (.int .u64 y) = eCells (sl.set i (y, b)) from flatn_set (fun p : Int × Bool => [Value.int .u64 p.1, Value.bool p.2]) 2 (fun _ => rfl) sl hx (by decide) _ rfl]
  simp
theorem eeng_beg (h : EEngAt w g sb cb mb base sl) {i : Nat} {x : Int} {b : Bool} (hx : sl[i]? = some (x, b)) (y : Bool) : EEngAt (w.setCell ⟨sb, i * 2 + 1, none⟩ (.bool y)) g sb cb mb base (sl.set i (x, y)) := by
  have k : Keep (fun k => k = sb) w (w.setCell ⟨sb, i * 2 + 1, none⟩ (.bool y)) := Keep.setCell (Keep.refl (fun k => k = sb) w) (.inl rfl) _
  refine ⟨by rw [List.length_set]; exact k.at h.head h.n1, ?_, k.at h.cap h.n2, h.n1, h.n2⟩
  rw [set_same h.slots, ← show (eCells sl).set (i * 2 + 1) (.bool y) = eCells (sl.set i (x, y)) from flatn_set (fun p : Int × Bool => [Value.int .u64 p.1, Value.bool p.2]) 2 (fun _ => rfl) sl hx (by decide) _ rfl]
  simp

set_option maxHeartbeats 400000 in
theorem eat_ok {cb : Nat} {base : Int} (hc : w.cell? ⟨cb, 0, none⟩ = some (.int .i64 base)) (b0 : 0 ≤ base) (b1 : base < 1000000) (i : Nat) (hi : i < 1000000) :
    Calls Tryz.prog 79 #[.int .i64 i, .pointer (some ⟨cb, 0, none⟩)] w fun e w' => e = .returned (.int .i64 (base + 2 * i)) ∧ w = w' := by
  go_enter Tryz.func79, Tryz.ntmps79
  go_wp2
  go_ret
  exact ⟨rfl, rfl⟩

set_option maxHeartbeats 400000 in
theorem ethread_nil (t : Int) : Calls Tryz.prog 151 #[.pointer none, .int .i64 t] w fun e w' => e = .returned (.int .i64 1) ∧ w = w' := by
  go_enter Tryz.func151, Tryz.ntmps151
  go_wp2
  go_ret
  exact ⟨rfl, rfl⟩
set_option maxHeartbeats 400000 in
theorem ethread_no (g : Nat) (t : Int) (h : t < 0 ∨ 64 ≤ t) : Calls Tryz.prog 151 #[.pointer (some ⟨g, 0, none⟩), .int .i64 t] w fun e w' => e = .returned (.int .i64 2) ∧ w = w' := by
  by_cases h1 : t < 0
  · have d1 : decide (t < 0) = true := decide_eq_true h1
    clear h h1
    go_enter Tryz.func151, Tryz.ntmps151
    go_wp2
    go_ret
    exact ⟨rfl, rfl⟩
  · have d1 : decide (t < 0) = false := decide_eq_false h1
    have d2 : decide (64 ≤ t) = true := decide_eq_true (by omega)
    clear h h1
    go_enter Tryz.func151, Tryz.ntmps151
    go_wp2
    go_ret
    exact ⟨rfl, rfl⟩
set_option maxHeartbeats 400000 in
theorem ethread_ok (g : Nat) (t : Int) (h0 : 0 ≤ t) (h1 : t < 64) : Calls Tryz.prog 151 #[.pointer (some ⟨g, 0, none⟩), .int .i64 t] w fun e w' => e = .returned (.int .i64 0) ∧ w = w' := by
  have d1 : decide (t < 0) = false := decide_eq_false (by omega)
  have d2 : decide (64 ≤ t) = false := decide_eq_false (by omega)
  go_enter Tryz.func151, Tryz.ntmps151
  go_wp2
  go_ret
  exact ⟨rfl, rfl⟩

set_option maxHeartbeats 400000 in
theorem eslot_nil (t s : Int) : Calls Tryz.prog 150 #[.pointer none, .int .i64 t, .int .i64 s] w fun e w' => e = .returned (.tuple #[.pointer none, .int .i64 1]) ∧ w = w' := by
  go_enter Tryz.func150, Tryz.ntmps150
  go_wp2_with fail
  refine (ethread_nil _).mono ?_
  rintro e w' ⟨rfl, rfl⟩
  go_wp2
  go_ret2
  exact ⟨rfl, rfl⟩
set_option maxHeartbeats 400000 in
theorem eslot_two (g : Nat) (t s : Int) (h : t < 0 ∨ 64 ≤ t) : Calls Tryz.prog 150 #[.pointer (some ⟨g, 0, none⟩), .int .i64 t, .int .i64 s] w fun e w' => e = .returned (.tuple #[.pointer none, .int .i64 2]) ∧ w = w' := by
  have H := hid h
  clear h
  go_enter Tryz.func150, Tryz.ntmps150
  go_wp2_with fail
  refine (ethread_no _ _ H.out).mono ?_
  rintro e w' ⟨rfl, rfl⟩
  go_wp2
  go_ret2
  exact ⟨rfl, rfl⟩
set_option maxHeartbeats 400000 in
theorem eslot_three (h : EEngAt w g sb cb mb base sl) (t s : Int) (h0 : 0 ≤ t) (h1 : t < 64) (hs : s < 0 ∨ (sl.length : Int) ≤ s) : Calls Tryz.prog 150 #[.pointer (some ⟨g, 0, none⟩), .int .i64 t, .int .i64 s] w fun e w' => e = .returned (.tuple #[.pointer none, .int .i64 3]) ∧ w = w' := by
  obtain ⟨c0, c1, c2, c3⟩ := h.cells
  have HT := hid (@ethread_ok w g t h0 h1)
  clear h c0 c2 c3
  by_cases h2 : s < 0
  · have d1 : decide (s < 0) = true := decide_eq_true h2
    clear hs h2
    go_enter Tryz.func150, Tryz.ntmps150
    go_wp2_with fail
    refine HT.out.mono ?_
    rintro e w' ⟨rfl, rfl⟩
    go_wp2
    go_ret2
    exact ⟨rfl, rfl⟩
  · have d1 : decide (s < 0) = false := decide_eq_false h2
    have d2 : decide ((sl.length : Int) ≤ s) = true := decide_eq_true (by omega)
    clear hs h2
    go_enter Tryz.func150, Tryz.ntmps150
    go_wp2_with fail
    refine HT.out.mono ?_
    rintro e w' ⟨rfl, rfl⟩
    go_wp2
    go_ret2
    exact ⟨rfl, rfl⟩
set_option maxHeartbeats 400000 in
theorem eslot_ok (h : EEngAt w g sb cb mb base sl) (t : Int) (i : Nat) (h0 : 0 ≤ t) (h1 : t < 64) (s1 : i < sl.length) : Calls Tryz.prog 150 #[.pointer (some ⟨g, 0, none⟩), .int .i64 t, .int .i64 i] w fun e w' => e = .returned (.tuple #[.pointer (some ⟨sb, i * 2, none⟩), .int .i64 0]) ∧ w = w' := by
  obtain ⟨c0, c1, c2, c3⟩ := h.cells
  have HT := hid (@ethread_ok w g t h0 h1)
  have d1 : decide ((i : Int) < 0) = false := decide_eq_false (by omega)
  have d2 : decide ((sl.length : Int) ≤ (i : Int)) = false := decide_eq_false (by omega)
  have s0 : (0 : Int) ≤ (i : Int) := by omega
  have s2 : (i : Int) < (sl.length : Int) := by omega
  clear h c0 c2 c3
  go_enter Tryz.func150, Tryz.ntmps150
  go_wp2_with fail
  refine HT.out.mono ?_
  rintro e w' ⟨rfl, rfl⟩
  go_wp2
  go_ret2
  exact ⟨rfl, rfl⟩

set_option maxRecDepth 100000 in
set_option maxHeartbeats 4000000 in
theorem eadv_ok (h : ESys w g sb cb mb F base sl ws log) (t : Int) (i : Nat) (x y : Int) (b : Bool) (t0 : 0 ≤ t) (t1 : t < 64) (hx : sl[i]? = some (x, b)) (x0 : 0 ≤ x) (x1 : x < 1000000000000) (b0 : 0 ≤ base) (b1 : base < 1000000) (hn : sl.length < 1000000) (hy : ws[(base + 2 * i).toNat]? = some y) (hlog : log.length < 1000000000000) :
    Calls Tryz.prog 149 #[.pointer (some ⟨g, 0, none⟩), .int .i64 t, .int .i64 i] w fun e w' => e = .returned (.tuple #[]) ∧ ESysTo w g sb cb mb F base (sl.set i (x + 1, b)) (ws.set (base + 2 * i).toNat (x + 1)) (log ++ [⟨t, base + 2 * i, 2, y, x + 1, false⟩]) w' := by
  obtain ⟨c0, c1, c2, c3⟩ := h.eng.cells
  obtain ⟨cx, -⟩ := h.eng.slot hx
  have l0 := lt_of_at hx
  have zf : w.frozen? ⟨sb, i * 2, none⟩ = false := free_of h.eng.slots _
  have H := hid h
  have hw : IntKind.u64.wrap (x + 1) = x + 1 := by rw [IntKind.wrap_u64]; omega
  have HY := hid hy
  have HX := hid hx
  clear h hy hx c0 c2 c3
  go_enter Tryz.func149, Tryz.ntmps149
  go_wp2
  obtain ⟨W, hW⟩ : ∃ W, W = w.setCell ⟨sb, i * 2, none⟩ (.int .u64 (x + 1)) := ⟨_, rfl⟩
  rw [← hW]
  have kW : Keep (fun k => k = sb) w W := by rw [hW]; exact Keep.setCell (Keep.refl (fun k => k = sb) w) (.inl rfl) _
  have eW : EEngAt W g sb cb mb base (sl.set i (x + 1, b)) := by rw [hW]; exact eeng_num H.out.eng HX.out _
  have mW : MemAt W mb F ws log := H.out.mem.keep kW (fun k hF e => H.out.f2 (by rw [← e]; exact hF))
  obtain ⟨d0, d1, d2, d3⟩ := eW.cells
  have dx := (eW.slot (put_self HX.out _)).1
  rw [List.length_set] at d1
  have KD := hid ((Keep.refl Nil W).drew)
  have EW := hid eW
  have MW := hid mW
  have KW := hid kW
  have D3 := hid d3
  clear hW c1 cx zf eW mW kW
  go_region_held3 (fun w' => w'.cell? ⟨g, 0, none⟩ = some (.pointer (some ⟨mb, 0, none⟩)) ∧ w'.cell? ⟨g, 1, none⟩ = some (.slice (some ⟨sb, 0, none⟩) sl.length sl.length) ∧ w'.cell? ⟨g, 2, none⟩ = some (.func (.func 79) #[] #[.pointer (some ⟨cb, 0, none⟩)]) ∧ w'.cell? ⟨sb, i * 2, none⟩ = some (.int .u64 (x + 1))) (go_keep)
    (first
      | (go_at_call 79; (with_reducible refine (eat_ok (KD.out.cell D3.out (fun h => h)) b0 b1 i (by omega)).mono ?_); rintro e w1 ⟨rfl, rfl⟩)
      | (go_at_call 135; (with_reducible refine (store_ok (MW.out.keep KD.out (fun _ _ h => h)) t (base + 2 * i) y (x + 1) t0 t1 (by omega) HY.out hlog).mono ?_); rintro e w2 ⟨rfl, F2, hm2, k2, f2⟩; have e2 := (EW.out.quiet KD.out).keep k2 H.out.f1 H.out.f2 H.out.f3; obtain ⟨p0, p1, p2, p3⟩ := e2.cells; have px := (e2.slot (put_self HX.out _)).1; rw [List.length_set] at p1; have M2 := hid hm2; have K2 := hid k2; have F2' := hid f2; have E2 := hid e2; clear hm2 k2 f2 e2 p3))
  have k2' : Keep F W w2 := ((Keep.refl F W).drew).trans K2.out (fun _ _ h => h)
  have hs : ESys w2 g sb cb mb F2 base (sl.set i (x + 1, b)) (ws.set (base + 2 * i).toNat (x + 1)) (log ++ [⟨t, base + 2 * i, 2, y, x + 1, false⟩]) := by
    have n1 : ∀ b : Nat, ¬ F b → b < w.heap.size → ¬ F2 b := fun b hb hl hF => (F2'.out b hF).elim hb (fun h => by have := KW.out.size; simp at h; omega)
    exact ⟨M2.out, E2.out, n1 g H.out.f1 (lt_of_block H.out.eng.head), n1 sb H.out.f2 (lt_of_block H.out.eng.slots), n1 cb H.out.f3 (lt_of_block H.out.eng.cap)⟩
  have hk : Keep (fun k => F k ∨ k = sb) w w2 := (KW.out.mono (fun _ _ h => .inr h)).trans (k2'.mono (T := fun k => F k ∨ k = sb) (fun _ _ h => .inl h)) (fun _ _ h => h)
  have HS := hid hs
  have HK := hid hk
  have HF := hid (show Foot w F F2 from fun k hF => (F2'.out k hF).elim .inl (fun h => .inr (by have := KW.out.size; simp at h; omega)))
  clear k2' hs hk
  go_wp2
  go_end0
  exact ⟨rfl, F2, HS.out, HK.out, HF.out⟩
end
end Go.Proofs.YtldjlcdccnnogaaGreat

/-! each: Enter and Exit: contracts. -/
namespace Go.Proofs.YtldjlcdccnnogaaGreat
open Go.RowKit Go.Lf

/-- An Enter with k steps made. -/
def EEntAt (w : World) (eb g : Nat) (t : Int) (i : Nat) (v : Int) (k : Nat) : Prop :=
  w.heap[eb]? = some (.cells #[.pointer (some ⟨g, 0, none⟩), .int .i64 t, .int .i64 i, .int .i64 v, .int .i64 k] 280 (0, 0))
section
variable {w : World} {g sb cb mb : Nat} {F : Nat → Prop} {base : Int} {sl : List (Int × Bool)} {ws : List Int} {log : List Acc} {eb : Nat} {t v : Int} {i k : Nat}
theorem EEntAt.cells (h : EEntAt w eb g t i v k) : w.cell? ⟨eb, 0, none⟩ = some (.pointer (some ⟨g, 0, none⟩)) ∧ w.cell? ⟨eb, 1, none⟩ = some (.int .i64 t) ∧ w.cell? ⟨eb, 2, none⟩ = some (.int .i64 i) ∧ w.cell? ⟨eb, 3, none⟩ = some (.int .i64 v) ∧ w.cell? ⟨eb, 4, none⟩ = some (.int .i64 k) := by
  refine ⟨?_, ?_, ?_, ?_, ?_⟩ <;> (rw [cell_of h]; rfl)
def EEnterTo (w : World) (g sb cb mb : Nat) (F : Nat → Prop) (base : Int) (sl : List (Int × Bool)) (ws : List Int) (log : List Acc) (t : Int) (i : Nat) (v : Int) (e : Ending) (w' : World) : Prop :=
  e = .returned (.tuple #[.pointer (some ⟨w.heap.size, 0, none⟩), .int .i64 0]) ∧ ESys w' g sb cb mb F base sl ws log ∧ EEntAt w' w.heap.size g t i v 0 ∧ Keep (fun k => k = sb) w w' ∧ w'.heap.size = w.heap.size + 1

set_option maxRecDepth 100000 in
set_option maxHeartbeats 2000000 in
theorem eenter_ok (h : ESys w g sb cb mb F base sl ws log) (v : Int) (t0 : 0 ≤ t) (t1 : t < 64) (v0 : 0 ≤ v) (v1 : v < 64) (x : Int) (hx : sl[i]? = some (x, false)) (x0 : 0 ≤ x) (hev : x % 2 = 0) :
    Calls Tryz.prog 145 #[.pointer (some ⟨g, 0, none⟩), .int .i64 t, .int .i64 i, .int .i64 v] w (EEnterTo w g sb cb mb F base (sl.set i (x, true)) ws log t i v) := by
  obtain ⟨c0, c1, c2, c3⟩ := h.eng.cells
  obtain ⟨cx, cb'⟩ := h.eng.slot hx
  have l0 := lt_of_at hx
  have zf : w.frozen? ⟨sb, i * 2 + 1, none⟩ = false := free_of h.eng.slots _
  have HS := hid (eslot_ok h.eng t i t0 t1 l0)
  have d1 : decide (v < 0) = false := decide_eq_false (by omega)
  have d2 : decide (64 ≤ v) = false := decide_eq_false (by omega)
  have d3 : (x % 2 == 1) = false := beq_eq_false_iff_ne.2 (by omega)
  have H := hid h
  have HX := hid hx
  clear h hx c0 c1 c2 c3 hev
  go_enter Tryz.func145, Tryz.ntmps145
  go_wp2_with fail
  refine HS.out.mono ?_
  rintro e w' ⟨rfl, rfl⟩
  go_wp2
  go_ret2
  have hsz : (w.setCell ⟨sb, i * 2 + 1, none⟩ (.bool true)).heap.size = w.heap.size := by simp
  have kW : Keep (fun k => k = sb) w ((w.setCell ⟨sb, i * 2 + 1, none⟩ (.bool true)).alloc (.cells #[.pointer (some ⟨g, 0, none⟩), .int .i64 t, .int .i64 i, .int .i64 v, .int .i64 0] 280)) := (Keep.setCell (Keep.refl (fun k => k = sb) w) (.inl rfl) _).alloc _
  refine ⟨rfl, ⟨H.out.mem.keep kW (fun k hF e => H.out.f2 (by rw [← e]; exact hF)), (eeng_beg H.out.eng HX.out true).quiet ((Keep.refl Nil _).alloc _), H.out.f1, H.out.f2, H.out.f3⟩, ?_, kW, by simp⟩
  have hq := heap_alloc_new (w.setCell ⟨sb, i * 2 + 1, none⟩ (.bool true)) (.cells #[.pointer (some ⟨g, 0, none⟩), .int .i64 t, .int .i64 i, .int .i64 v, .int .i64 0] 280)
  rw [hsz] at hq
  exact hq

/-- An Enter has made a step. -/
def EEntTo (w : World) (g sb cb mb : Nat) (F : Nat → Prop) (base : Int) (sl : List (Int × Bool)) (ws : List Int) (log : List Acc) (eb : Nat) (t : Int) (i : Nat) (v : Int) (k : Nat) (w' : World) : Prop :=
  ∃ F', ESys w' g sb cb mb F' base sl ws log ∧ EEntAt w' eb g t i v k ∧ Keep (fun k => F k ∨ k = sb ∨ k = eb) w w' ∧ Foot w F F' ∧ ¬ F' eb

set_option maxRecDepth 100000 in
set_option maxHeartbeats 4000000 in
theorem emark_do (h : ESys w g sb cb mb F base sl ws log) (he : EEntAt w eb g t i v k) (hF : ¬ F eb) (y : Int) (t0 : 0 ≤ t) (t1 : t < 64) (v0 : 0 ≤ v) (v1 : v < 64) (hi : i < 1000000) (b0 : 0 ≤ base) (b1 : base < 1000000) (hy : ws[(base + 2 * i + 1).toNat]? = some y) (hlog : log.length < 1000000000000) :
    Calls Tryz.prog 198 #[.pointer (some ⟨eb, 0, none⟩)] w fun e w' => e = .returned (.int .u8 14) ∧ EEntTo w g sb cb mb F base sl (ws.set (base + 2 * i + 1).toNat v) (log ++ [⟨t, base + 2 * i + 1, 2, y, v, false⟩]) eb t i v k w' := by
  obtain ⟨c0, c1, c2, c3⟩ := h.eng.cells
  obtain ⟨a0, a1, a2, a3, a4⟩ := he.cells
  have lb := lt_of_block he
  have hw : IntKind.u64.wrap v = v := by rw [IntKind.wrap_u64]; omega
  have hw2 : IntKind.i64.wrap (base + 2 * i + 1) = base + 2 * i + 1 := by rw [IntKind.wrap_i64]; omega
  have H := hid h
  have HE := hid he
  have HF := hid hF
  have HY := hid hy
  have KD := hid ((Keep.refl Nil w).drew)
  have C3 := hid c3
  clear h he hF hy c1 a4
  go_enter Tryz.func198, Tryz.ntmps198
  go_wp2
  go_region_held3 (fun w' => w'.cell? ⟨eb, 0, none⟩ = some (.pointer (some ⟨g, 0, none⟩)) ∧ w'.cell? ⟨eb, 1, none⟩ = some (.int .i64 t) ∧ w'.cell? ⟨eb, 2, none⟩ = some (.int .i64 i) ∧ w'.cell? ⟨eb, 3, none⟩ = some (.int .i64 v) ∧ w'.cell? ⟨g, 0, none⟩ = some (.pointer (some ⟨mb, 0, none⟩)) ∧ w'.cell? ⟨g, 2, none⟩ = some (.func (.func 79) #[] #[.pointer (some ⟨cb, 0, none⟩)])) (go_keep)
    (first
      | (go_at_call 79; (with_reducible refine (eat_ok (KD.out.cell C3.out (fun h => h)) b0 b1 i (by omega)).mono ?_); rintro e w1 ⟨rfl, rfl⟩)
      | (go_at_call 135; (with_reducible refine (store_ok (H.out.mem.keep KD.out (fun _ _ h => h)) t (base + 2 * i + 1) y v t0 t1 (by omega) HY.out hlog).mono ?_); rintro e w2 ⟨rfl, F2, hm2, k2, f2⟩; have e2 := (H.out.eng.quiet KD.out).keep k2 H.out.f1 H.out.f2 H.out.f3; obtain ⟨p0, p1, p2, p3⟩ := e2.cells; have he2 : EEntAt w2 eb g t i v k := k2.at (KD.out.at HE.out (fun h => h)) HF.out; obtain ⟨q0, q1, q2, q3, q4⟩ := he2.cells; have M2 := hid hm2; have K2 := hid k2; have F2' := hid f2; have E2 := hid e2; have HE2 := hid he2; clear hm2 k2 f2 e2 p3 p1 he2 q4))
  have n1 : ∀ b : Nat, ¬ F b → b < w.heap.size → ¬ F2 b := fun b hb hl hF => (F2'.out b hF).elim hb (fun h => by simp at h; omega)
  have k2' : Keep F w w2 := ((Keep.refl F w).drew).trans K2.out (fun _ _ h => h)
  have HS := hid (show ESys w2 g sb cb mb F2 base sl (ws.set (base + 2 * i + 1).toNat v) (log ++ [⟨t, base + 2 * i + 1, 2, y, v, false⟩]) from ⟨M2.out, E2.out, n1 g H.out.f1 (lt_of_block H.out.eng.head), n1 sb H.out.f2 (lt_of_block H.out.eng.slots), n1 cb H.out.f3 (lt_of_block H.out.eng.cap)⟩)
  have HK := hid (k2'.mono (T := fun k => F k ∨ k = sb ∨ k = eb) (fun _ _ h => .inl h))
  have HFo := hid (show Foot w F F2 from fun k hF => (F2'.out k hF).elim .inl (fun h => .inr (by simpa using h)))
  have HN := hid (n1 eb HF.out lb)
  clear n1 k2'
  go_wp2
  go_ret
  exact ⟨rfl, F2, HS.out, HE2.out, HK.out, HFo.out, HN.out⟩

set_option maxRecDepth 100000 in
set_option maxHeartbeats 4000000 in
theorem eseq_do (h : ESys w g sb cb mb F base sl ws log) (he : EEntAt w eb g t i v k) (hF : ¬ F eb) (x y : Int) (b : Bool) (t0 : 0 ≤ t) (t1 : t < 64) (hx : sl[i]? = some (x, b)) (x0 : 0 ≤ x) (x1 : x < 1000000000000) (b0 : 0 ≤ base) (b1 : base < 1000000) (hn : sl.length < 1000000) (hy : ws[(base + 2 * i).toNat]? = some y) (hlog : log.length < 1000000000000) :
    Calls Tryz.prog 199 #[.pointer (some ⟨eb, 0, none⟩)] w fun e w' => e = .returned (.int .u8 13) ∧ EEntTo w g sb cb mb F base (sl.set i (x + 1, false)) (ws.set (base + 2 * i).toNat (x + 1)) (log ++ [⟨t, base + 2 * i, 2, y, x + 1, false⟩]) eb t i v k w' := by
  obtain ⟨c0, c1, c2, c3, c4⟩ := he.cells
  have e1 : eb ≠ g := type_ne he h.eng.head (by decide)
  have e2 : eb ≠ sb := type_ne he h.eng.slots (by decide)
  have e3 : eb ≠ cb := type_ne he h.eng.cap (by decide)
  have l0 := lt_of_at hx
  have lb := lt_of_block he
  have HA := hid (eadv_ok (h.quiet (Keep.refl Nil w).drew) t i x y b t0 t1 hx x0 x1 b0 b1 hn hy hlog)
  have H := hid h
  have E := hid he
  have HB := hid hF
  have HX := hid hx
  clear h he hx hy hF c3 c4
  go_enter Tryz.func199, Tryz.ntmps199
  go_wp2
  go_still_tail 12, (by kernel_rfl)
  change wpList _ _ _ _ _ w.drew
  go_wp2_with fail
  refine HA.out.mono ?_
  rintro e w1 ⟨rfl, F1, hs1, hk1, hf1⟩
  have hnF : ¬ F1 eb := fun h => (hf1 eb h).elim HB.out (fun h => by simp at h; omega)
  have he1 : EEntAt w1 eb g t i v k := hk1.at (show w.drew.heap[eb]? = _ from E.out) (fun h => by rcases h with h | h; exact HB.out h; exact e2 h)
  obtain ⟨a0, a1, a2, a3, a4⟩ := he1.cells
  obtain ⟨k0, k1, k2, k3⟩ := hs1.eng.cells
  have zf : w1.frozen? ⟨sb, i * 2 + 1, none⟩ = false := free_of hs1.eng.slots _
  have kb := (hs1.eng.slot (put_self HX.out _)).2
  rw [List.length_set] at k1
  have S1 := hid hs1
  have E1 := hid he1
  have K1 := hid hk1
  have F1' := hid hf1
  have NF := hid hnF
  clear HA c0 c1 c2 hs1 he1 hk1 hf1 hnF a3 a4 k0 k2 k3 a1
  go_wp2
  go_still_tail 13, (by kernel_rfl)
  change wpList _ _ _ _ _ w1.drew
  go_wp2
  go_ret
  have kW : Keep (fun k => k = sb) w1 (w1.drew.setCell ⟨sb, i * 2 + 1, none⟩ (.bool false)) := Keep.setCell ((Keep.refl (fun k => k = sb) w1).drew) (.inl rfl) _
  refine ⟨rfl, F1, ⟨S1.out.mem.keep kW (fun k hF e => S1.out.f2 (by rw [← e]; exact hF)), ?_, S1.out.f1, S1.out.f2, S1.out.f3⟩, kW.at E1.out e2, ?_, F1'.out, NF.out⟩
  · have := eeng_beg (w := w1.drew) (S1.out.eng.quiet (Keep.refl Nil w1).drew) (put_self HX.out _) false
    rwa [List.set_set] at this
  · exact ((Keep.refl (fun k => F k ∨ k = sb ∨ k = eb) w).drew.trans (K1.out.mono (T := fun k => F k ∨ k = sb ∨ k = eb) (fun _ _ h => by rcases h with h | h; exact .inl h; exact .inr (.inl h))) (fun _ _ h => h)).trans (kW.mono (T := fun k => F k ∨ k = sb ∨ k = eb) (fun _ _ h => .inr (.inl h))) (fun _ _ h => h)

theorem sizeSteps : (Tryz.prog.info? 328).map (·.size) = some 2 := by kernel_rfl
set_option maxRecDepth 100000 in
set_option maxHeartbeats 1000000 in
theorem esteps_ok : Calls Tryz.prog 197 #[] w fun e w' => e = .returned (.agg #[.func (.func 198) #[] #[], .func (.func 199) #[] #[]]) ∧ Keep Nil w w' := by
  go_enter Tryz.func197, Tryz.ntmps197
  go_wp2
  have hh := heap_alloc_new w (.cells #[.func (.func 198) #[] #[], .func (.func 199) #[] #[]] 328)
  (try simp only [Exit.inBlock, Exit.then])
  refine bodyPost_ret (results_cell_row rfl _ _ w.heap.size _ _ (0, 0) _ rfl hh Tryz.underlying328 rfl sizeSteps) rfl ?_
  exact ⟨rfl, (Keep.refl Nil w).alloc _⟩

theorem EEntAt.stepped (he : EEntAt w eb g t i v k) : EEntAt (w.setCell ⟨eb, 4, none⟩ (.int .i64 ((k : Int) + 1))) eb g t i v (k + 1) := by
  have := set_same (i := 4) he (.int .i64 ((k : Int) + 1))
  unfold EEntAt
  rw [show ((k + 1 : Nat) : Int) = (k : Int) + 1 by omega]
  exact this
theorem ent_to {w0 w1 : World} (k0 : Keep Nil w w0) (h : EEntTo w0 g sb cb mb F base sl ws log eb t i v k w1) : EEntTo w g sb cb mb F base sl ws log eb t i v (k + 1) (w1.setCell ⟨eb, 4, none⟩ (.int .i64 ((k : Int) + 1))) := by
  obtain ⟨F', hs, ha, hk, hf, hn⟩ := h
  have e1 : eb ≠ g := type_ne ha hs.eng.head (by decide)
  have e2 : eb ≠ sb := type_ne ha hs.eng.slots (by decide)
  have e3 : eb ≠ cb := type_ne ha hs.eng.cap (by decide)
  have kW : Keep (fun k => k = eb) w1 (w1.setCell ⟨eb, 4, none⟩ (.int .i64 ((k : Int) + 1))) := Keep.setCell (Keep.refl (fun k => k = eb) w1) (.inl rfl) _
  refine ⟨F', hs.keep kW (fun k hF e => hn (by rw [← e]; exact hF)) (fun e => e1 e.symm) (fun e => e2 e.symm) (fun e => e3 e.symm), ha.stepped, ?_, fun k hk => (hf k hk).elim .inl (fun h => .inr (by have := k0.size; omega)), hn⟩
  exact (((k0.mono (T := fun k => F k ∨ k = sb ∨ k = eb) (fun _ _ h => h.elim)).trans hk (fun _ _ h => h))).trans (kW.mono (T := fun k => F k ∨ k = sb ∨ k = eb) (fun _ _ h => .inr (.inr h))) (fun _ _ h => h)
end
end Go.Proofs.YtldjlcdccnnogaaGreat

/-! each: the steps of an Enter, Exit, and what is refused: contracts. -/
namespace Go.Proofs.YtldjlcdccnnogaaGreat
open Go.RowKit Go.Lf
section
variable {w : World} {g sb cb mb : Nat} {F : Nat → Prop} {base : Int} {sl : List (Int × Bool)} {ws : List Int} {log : List Acc} {eb : Nat} {t s v x : Int} {i k : Nat}

set_option maxRecDepth 100000 in
set_option maxHeartbeats 4000000 in
theorem estep_mark (h : ESys w g sb cb mb F base sl ws log) (he : EEntAt w eb g t i v 0) (hF : ¬ F eb) (y : Int) (t0 : 0 ≤ t) (t1 : t < 64) (v0 : 0 ≤ v) (v1 : v < 64) (hi : i < 1000000) (b0 : 0 ≤ base) (b1 : base < 1000000) (hy : ws[(base + 2 * i + 1).toNat]? = some y) (hlog : log.length < 1000000000000) :
    Calls Tryz.prog 196 #[.pointer (some ⟨eb, 0, none⟩)] w fun e w' => e = .returned (.tuple #[.int .u8 14, .bool false]) ∧ EEntTo w g sb cb mb F base sl (ws.set (base + 2 * i + 1).toNat v) (log ++ [⟨t, base + 2 * i + 1, 2, y, v, false⟩]) eb t i v 1 w' := by
  have HM := hid (fun (w1 : World) (k1 : Keep Nil w w1) => emark_do (h.quiet k1) (k1.at he (fun h => h)) hF y t0 t1 v0 v1 hi b0 b1 hy hlog)
  have HC := hid (fun (w1 : World) (k1 : Keep Nil w w1) => (k1.cell he.cells.2.2.2.2 (fun h => h)))
  have lb := lt_of_block he
  clear h he hF hy hlog hi v0 v1
  go_enter Tryz.func196, Tryz.ntmps196
  go_wp2_with fail
  refine esteps_ok.mono ?_
  rintro e w1 ⟨rfl, k1⟩
  have a4 := HC.out _ k1
  have lb1 : eb < w1.heap.size := by have := k1.size; omega
  have K1 := hid k1
  clear k1
  go_wp2_with fail
  refine (HM.out _ (K1.out.alloc _)).mono ?_
  rintro e w2 ⟨rfl, hq⟩
  have HT := hid (ent_to (K1.out.alloc _) hq)
  obtain ⟨F2, hs2, he2, hk2, hf2, hn2⟩ := hq
  have a4 := he2.cells.2.2.2.2
  have z4 : w2.frozen? ⟨eb, 4, none⟩ = false := free_of he2 4
  have lb2 := lt_of_block he2
  clear hs2 he2 hk2 hf2 hn2 HM HC
  go_wp2
  go_quiet (fail)
  go_wp2
  go_ret2
  refine ⟨rfl, ?_⟩
  obtain ⟨F3, hs3, he3, hk3, hf3, hn3⟩ := HT.out
  exact ⟨F3, hs3.quiet ((Keep.refl Nil _).drewN nq), ((Keep.refl Nil _).drewN nq).at he3 (fun h => h), hk3.drewN nq, hf3, hn3⟩
set_option maxRecDepth 100000 in
set_option maxHeartbeats 4000000 in
theorem estep_seq (h : ESys w g sb cb mb F base sl ws log) (he : EEntAt w eb g t i v 1) (hF : ¬ F eb) (x y : Int) (b : Bool) (t0 : 0 ≤ t) (t1 : t < 64) (hx : sl[i]? = some (x, b)) (x0 : 0 ≤ x) (x1 : x < 1000000000000) (b0 : 0 ≤ base) (b1 : base < 1000000) (hn : sl.length < 1000000) (hy : ws[(base + 2 * i).toNat]? = some y) (hlog : log.length < 1000000000000) :
    Calls Tryz.prog 196 #[.pointer (some ⟨eb, 0, none⟩)] w fun e w' => e = .returned (.tuple #[.int .u8 13, .bool true]) ∧ EEntTo w g sb cb mb F base (sl.set i (x + 1, false)) (ws.set (base + 2 * i).toNat (x + 1)) (log ++ [⟨t, base + 2 * i, 2, y, x + 1, false⟩]) eb t i v 2 w' := by
  have HM := hid (fun (w1 : World) (k1 : Keep Nil w w1) => eseq_do (h.quiet k1) (k1.at he (fun h => h)) hF x y b t0 t1 hx x0 x1 b0 b1 hn hy hlog)
  have HC := hid (fun (w1 : World) (k1 : Keep Nil w w1) => (k1.cell he.cells.2.2.2.2 (fun h => h)))
  have lb := lt_of_block he
  clear h he hF hy hlog hx x0 x1 hn
  go_enter Tryz.func196, Tryz.ntmps196
  go_wp2_with fail
  refine esteps_ok.mono ?_
  rintro e w1 ⟨rfl, k1⟩
  have a4 := HC.out _ k1
  have lb1 : eb < w1.heap.size := by have := k1.size; omega
  have K1 := hid k1
  clear k1
  go_wp2_with fail
  refine (HM.out _ (K1.out.alloc _)).mono ?_
  rintro e w2 ⟨rfl, hq⟩
  have HT := hid (ent_to (K1.out.alloc _) hq)
  obtain ⟨F2, hs2, he2, hk2, hf2, hn2⟩ := hq
  have a4 := he2.cells.2.2.2.2
  have z4 : w2.frozen? ⟨eb, 4, none⟩ = false := free_of he2 4
  have lb2 := lt_of_block he2
  clear hs2 he2 hk2 hf2 hn2 HM HC
  go_wp2
  go_quiet (fail)
  go_wp2
  go_ret2
  refine ⟨rfl, ?_⟩
  obtain ⟨F3, hs3, he3, hk3, hf3, hn3⟩ := HT.out
  exact ⟨F3, hs3.quiet ((Keep.refl Nil _).drewN nq), ((Keep.refl Nil _).drewN nq).at he3 (fun h => h), hk3.drewN nq, hf3, hn3⟩
set_option maxHeartbeats 1000000 in
theorem estep_idle (he : EEntAt w eb g t i v 2) : Calls Tryz.prog 196 #[.pointer (some ⟨eb, 0, none⟩)] w fun e w' => e = .returned (.tuple #[.int .u8 0, .bool false]) ∧ Keep Nil w w' := by
  have HC := hid (fun (w1 : World) (k1 : Keep Nil w w1) => (k1.cell he.cells.2.2.2.2 (fun h => h)))
  have lb := lt_of_block he
  clear he
  go_enter Tryz.func196, Tryz.ntmps196
  go_wp2_with fail
  refine esteps_ok.mono ?_
  rintro e w1 ⟨rfl, k1⟩
  have a4 := HC.out _ k1
  have lb1 : eb < w1.heap.size := by have := k1.size; omega
  have K1 := hid k1
  clear k1
  go_wp2
  go_ret2
  exact ⟨rfl, K1.out.alloc _⟩
set_option maxHeartbeats 1000000 in
theorem estep_nil : Calls Tryz.prog 196 #[.pointer none] w fun e w' => e = .returned (.tuple #[.int .u8 0, .bool false]) ∧ Keep Nil w w' := by
  go_enter Tryz.func196, Tryz.ntmps196
  go_wp2_with fail
  refine esteps_ok.mono ?_
  rintro e w1 ⟨rfl, k1⟩
  have K1 := hid k1
  clear k1
  go_wp2
  go_ret2
  exact ⟨rfl, K1.out.alloc _⟩
/-- What an Enter does next. -/
def epc (k : Nat) : Int := if k = 0 then 14 else if k = 1 then 13 else 0
set_option maxHeartbeats 1000000 in
theorem enext_any (he : EEntAt w eb g t i v k) (hk : k ≤ 2) : Calls Tryz.prog 195 #[.pointer (some ⟨eb, 0, none⟩)] w fun e w' => e = .returned (.int .u8 (epc k)) ∧ Keep Nil w w' := by
  have a4 := he.cells.2.2.2.2
  have lb := lt_of_block he
  clear he
  have : k = 0 ∨ k = 1 ∨ k = 2 := by omega
  clear hk
  rcases this with rfl | rfl | rfl
  all_goals
    go_enter Tryz.func195, Tryz.ntmps195
    go_wp2
    go_ret
    exact ⟨rfl, (Keep.refl Nil w).alloc _⟩
set_option maxHeartbeats 1000000 in
theorem enext_nil : Calls Tryz.prog 195 #[.pointer none] w fun e w' => e = .returned (.int .u8 0) ∧ Keep Nil w w' := by
  go_enter Tryz.func195, Tryz.ntmps195
  go_wp2
  go_ret
  exact ⟨rfl, (Keep.refl Nil w).alloc _⟩

/-! Exit. -/
set_option maxRecDepth 100000 in
set_option maxHeartbeats 2000000 in
theorem eexit_ok (h : ESys w g sb cb mb F base sl ws log) (x y : Int) (b : Bool) (t0 : 0 ≤ t) (t1 : t < 64) (hx : sl[i]? = some (x, b)) (x0 : 0 ≤ x) (x1 : x < 1000000000000) (hodd : x % 2 = 1) (b0 : 0 ≤ base) (b1 : base < 1000000) (hn : sl.length < 1000000) (hy : ws[(base + 2 * i).toNat]? = some y) (hlog : log.length < 1000000000000) :
    Calls Tryz.prog 146 #[.pointer (some ⟨g, 0, none⟩), .int .i64 t, .int .i64 i] w fun e w' => e = .returned (.tuple #[.int .u8 13, .int .i64 0]) ∧ ESysTo w g sb cb mb F base (sl.set i (x + 1, b)) (ws.set (base + 2 * i).toNat (x + 1)) (log ++ [⟨t, base + 2 * i, 2, y, x + 1, false⟩]) w' := by
  have l0 := lt_of_at hx
  obtain ⟨cx, -⟩ := h.eng.slot hx
  have HS := hid (eslot_ok h.eng t i t0 t1 l0)
  have d3 : (x % 2 == 0) = false := beq_eq_false_iff_ne.2 (by omega)
  have HA := hid (eadv_ok h t i x y b t0 t1 hx x0 x1 b0 b1 hn hy hlog)
  clear h hx hy hlog hn hodd
  go_enter Tryz.func146, Tryz.ntmps146
  go_wp2_with fail
  refine HS.out.mono ?_
  rintro e w' ⟨rfl, rfl⟩
  go_wp2_with fail
  refine HA.out.mono ?_
  rintro e w1 ⟨rfl, hq⟩
  have HQ := hid hq
  clear hq
  go_wp2
  go_ret2
  exact ⟨rfl, HQ.out⟩
set_option maxHeartbeats 1000000 in
theorem eexit_state (h : EEngAt w g sb cb mb base sl) {b : Bool} (t0 : 0 ≤ t) (t1 : t < 64) (hx : sl[i]? = some (x, b)) (x0 : 0 ≤ x) (hev : x % 2 = 0) :
    Calls Tryz.prog 146 #[.pointer (some ⟨g, 0, none⟩), .int .i64 t, .int .i64 i] w fun e w' => e = .returned (.tuple #[.int .u8 0, .int .i64 8]) ∧ w = w' := by
  have l0 := lt_of_at hx
  obtain ⟨cx, -⟩ := h.slot hx
  have HS := hid (eslot_ok h t i t0 t1 l0)
  have d3 : (x % 2 == 0) = true := beq_iff_eq.2 hev
  clear h hx hev
  go_enter Tryz.func146, Tryz.ntmps146
  go_wp2_with fail
  refine HS.out.mono ?_
  rintro e w' ⟨rfl, rfl⟩
  go_wp2
  go_ret2
  exact ⟨rfl, rfl⟩
set_option maxHeartbeats 1000000 in
theorem eexit_slot {p : Value} {e0 : Int} (hs : Calls Tryz.prog 150 #[p, .int .i64 t, .int .i64 s] w fun e w' => e = .returned (.tuple #[.pointer none, .int .i64 e0]) ∧ w = w') (h0 : e0 ≠ 0) :
    Calls Tryz.prog 146 #[p, .int .i64 t, .int .i64 s] w fun e w' => e = .returned (.tuple #[.int .u8 0, .int .i64 e0]) ∧ w = w' := by
  have HS := hid hs
  have d1 : (e0 != 0) = true := bne_iff_ne.2 h0
  clear hs h0
  go_enter Tryz.func146, Tryz.ntmps146
  go_wp2_with fail
  refine HS.out.mono ?_
  rintro e w' ⟨rfl, rfl⟩
  go_wp2
  go_ret2
  exact ⟨rfl, rfl⟩

/-! What is refused. -/
set_option maxHeartbeats 1000000 in
theorem eenter_slot {p : Value} {e0 : Int} (hs : Calls Tryz.prog 150 #[p, .int .i64 t, .int .i64 s] w fun e w' => e = .returned (.tuple #[.pointer none, .int .i64 e0]) ∧ w = w') (h0 : e0 ≠ 0) :
    Calls Tryz.prog 145 #[p, .int .i64 t, .int .i64 s, .int .i64 v] w fun e w' => e = .returned (.tuple #[.pointer none, .int .i64 e0]) ∧ w = w' := by
  have HS := hid hs
  have d1 : (e0 != 0) = true := bne_iff_ne.2 h0
  clear hs h0
  go_enter Tryz.func145, Tryz.ntmps145
  go_wp2_with fail
  refine HS.out.mono ?_
  rintro e w' ⟨rfl, rfl⟩
  go_wp2
  go_ret2
  exact ⟨rfl, rfl⟩
set_option maxHeartbeats 1000000 in
theorem eenter_value (h : EEngAt w g sb cb mb base sl) (t0 : 0 ≤ t) (t1 : t < 64) (l0 : i < sl.length) (hv : v < 0 ∨ 64 ≤ v) :
    Calls Tryz.prog 145 #[.pointer (some ⟨g, 0, none⟩), .int .i64 t, .int .i64 i, .int .i64 v] w fun e w' => e = .returned (.tuple #[.pointer none, .int .i64 2]) ∧ w = w' := by
  have HS := hid (eslot_ok h t i t0 t1 l0)
  clear h
  by_cases h1 : v < 0
  · have d1 : decide (v < 0) = true := decide_eq_true h1
    clear hv h1
    go_enter Tryz.func145, Tryz.ntmps145
    go_wp2_with fail
    refine HS.out.mono ?_
    rintro e w' ⟨rfl, rfl⟩
    go_wp2
    go_ret2
    exact ⟨rfl, rfl⟩
  · have d1 : decide (v < 0) = false := decide_eq_false h1
    have d2 : decide (64 ≤ v) = true := decide_eq_true (by omega)
    clear hv h1
    go_enter Tryz.func145, Tryz.ntmps145
    go_wp2_with fail
    refine HS.out.mono ?_
    rintro e w' ⟨rfl, rfl⟩
    go_wp2
    go_ret2
    exact ⟨rfl, rfl⟩
set_option maxRecDepth 100000 in
set_option maxHeartbeats 1000000 in
theorem eenter_busy {b : Bool} (h : EEngAt w g sb cb mb base sl) (t0 : 0 ≤ t) (t1 : t < 64) (v0 : 0 ≤ v) (v1 : v < 64) (hx : sl[i]? = some (x, b)) (x0 : 0 ≤ x) (hbusy : b = true ∨ x % 2 = 1) :
    Calls Tryz.prog 145 #[.pointer (some ⟨g, 0, none⟩), .int .i64 t, .int .i64 i, .int .i64 v] w fun e w' => e = .returned (.tuple #[.pointer none, .int .i64 8]) ∧ w = w' := by
  obtain ⟨cx, cb'⟩ := h.slot hx
  have l0 := lt_of_at hx
  have HS := hid (eslot_ok h t i t0 t1 l0)
  have d1 : decide (v < 0) = false := decide_eq_false (by omega)
  have d2 : decide (64 ≤ v) = false := decide_eq_false (by omega)
  cases b with
  | true =>
    clear h hx hbusy
    go_enter Tryz.func145, Tryz.ntmps145
    go_wp2_with fail
    refine HS.out.mono ?_
    rintro e w' ⟨rfl, rfl⟩
    go_wp2
    go_ret2
    exact ⟨rfl, rfl⟩
  | false =>
    have hodd : x % 2 = 1 := by rcases hbusy with h | h; cases h; exact h
    have d3 : (x % 2 == 1) = true := beq_iff_eq.2 hodd
    clear h hx hbusy hodd
    go_enter Tryz.func145, Tryz.ntmps145
    go_wp2_with fail
    refine HS.out.mono ?_
    rintro e w' ⟨rfl, rfl⟩
    go_wp2
    go_ret2
    exact ⟨rfl, rfl⟩
end
end Go.Proofs.YtldjlcdccnnogaaGreat

/-! each: Wait: contracts. -/
namespace Go.Lf
theorem shl_one {v : Nat} (hv : v < 64) : Go.bits .or .u64 0 (IntKind.u64.wrap (2 ^ v : Int)) = (2 ^ v : Int) := by
  have := bits_or_u64 (a := 0) (b := 2 ^ v) (by decide) (pow_lt64 hv)
  rw [wrap_pow hv]
  simpa using this
theorem and_one {v s : Nat} (hv : v < 64) (hs : s < 18446744073709551616) : (Go.bits .and .u64 (2 ^ v : Int) (s : Int) == 0) = !s.testBit v := by
  rw [show (2 ^ v : Int) = ((2 ^ v : Nat) : Int) by simp, bits_and_u64 (pow_lt64 hv) hs]
  cases h : s.testBit v with
  | true =>
    have h1 : (2 ^ v &&& s).testBit v = true := by rw [Nat.testBit_and, Nat.testBit_two_pow_self, h]; rfl
    have h2 : 2 ^ v &&& s ≠ 0 := fun e => by rw [e] at h1; simp at h1
    exact beq_eq_false_iff_ne.2 (by omega)
  | false =>
    have h2 : 2 ^ v &&& s = 0 := by
      apply Nat.eq_of_testBit_eq
      intro i
      rw [Nat.testBit_and, Nat.testBit_two_pow, Nat.zero_testBit]
      by_cases e : v = i
      · subst e; rw [h, Bool.and_false]
      · rw [decide_eq_false e, Bool.false_and]
    rw [h2]
    rfl
theorem conc_nat (s v : Nat) (hv : v < 64) : conc (s : Int) (v : Int) = s.testBit v := by
  unfold conc
  rw [decide_eq_true (by omega)]
  simp
end Go.Lf
namespace Go.Proofs.YtldjlcdccnnogaaGreat
open Go.RowKit Go.Lf

def EWaitAt (w : World) (wb g : Nat) (t set : Int) (s : EWS) : Prop :=
  w.heap[wb]? = some (.cells #[.pointer (some ⟨g, 0, none⟩), .int .i64 t, .int .u64 set, .int .i64 s.pos, .int .u64 s.seen, .int .i64 s.st] 283 (0, 0))
section
variable {w : World} {g sb cb mb : Nat} {F : Nat → Prop} {base : Int} {sl : List (Int × Bool)} {ws : List Int} {log : List Acc} {wb : Nat} {t set : Int} {s : EWS}
theorem EWaitAt.cells (h : EWaitAt w wb g t set s) : w.cell? ⟨wb, 0, none⟩ = some (.pointer (some ⟨g, 0, none⟩)) ∧ w.cell? ⟨wb, 1, none⟩ = some (.int .i64 t) ∧ w.cell? ⟨wb, 2, none⟩ = some (.int .u64 set) ∧ w.cell? ⟨wb, 3, none⟩ = some (.int .i64 s.pos) ∧ w.cell? ⟨wb, 4, none⟩ = some (.int .u64 s.seen) ∧ w.cell? ⟨wb, 5, none⟩ = some (.int .i64 s.st) := by
  refine ⟨?_, ?_, ?_, ?_, ?_, ?_⟩ <;> (rw [cell_of h]; rfl)

set_option maxHeartbeats 1000000 in
theorem eset_one (b u : Nat) (hu : u < 64) (hc : w.cell? ⟨b, 0, none⟩ = some (.int .i64 u)) :
    Calls Tryz.prog 206 #[.slice (some ⟨b, 0, none⟩) 1 1] w fun e w' => e = .returned (.tuple #[.int .u64 (2 ^ u : Int), .int .i64 0]) ∧ w = w' := by
  have so := shl_one hu
  have d1 : decide ((u : Int) < 0) = false := decide_eq_false (by omega)
  have d2 : decide (64 ≤ (u : Int)) = false := decide_eq_false (by omega)
  have SO := hid so
  clear so
  go_enter Tryz.func206, Tryz.ntmps206
  go_wp2
  go_loop [4, 9] (fun z i => (i = .int .i64 0 ∧ z = .int .u64 0) ∨ (i = .int .i64 1 ∧ z = .int .u64 (2 ^ u : Int))) (fun _ i => 1 - (intOf i).toNat)
  case atStart => exact .inl ⟨rfl, rfl⟩
  case round =>
    rcases hrel with ⟨rfl, rfl⟩ | ⟨rfl, rfl⟩
    · go_wp2
      go_round
      case rel => exact .inr ⟨by first | rfl | trivial | go_num, by rw [SO.out]⟩
      case measure => first | (simp [intOf]; done) | (simp [intOf]; omega)
    · go_wp2
      go_ret2
      exact ⟨rfl, rfl⟩

/-- A new wait. -/
def EWaitTo (w : World) (g : Nat) (t set : Int) (e : Ending) (w' : World) : Prop :=
  e = .returned (.tuple #[.pointer (some ⟨w.heap.size, 0, none⟩), .int .i64 0]) ∧ EWaitAt w' w.heap.size g t set ⟨0, 0, 0⟩ ∧ Keep Nil w w' ∧ w'.heap.size = w.heap.size + 1
set_option maxHeartbeats 1000000 in
theorem ewait_ok (t0 : 0 ≤ t) (t1 : t < 64) (hx : set ≠ 0) : Calls Tryz.prog 148 #[.pointer (some ⟨g, 0, none⟩), .int .i64 t, .int .u64 set] w (EWaitTo w g t set) := by
  have HT := hid (@ethread_ok w g t t0 t1)
  have d1 : (set == 0) = false := beq_eq_false_iff_ne.2 hx
  clear hx
  go_enter Tryz.func148, Tryz.ntmps148
  go_wp2_with fail
  refine HT.out.mono ?_
  rintro e w' ⟨rfl, rfl⟩
  go_wp2
  go_ret2
  exact ⟨rfl, heap_alloc_new w _, (Keep.refl Nil w).alloc _, by simp⟩
set_option maxHeartbeats 1000000 in
theorem ewait_thread {p : Value} {e0 : Int} (hs : Calls Tryz.prog 151 #[p, .int .i64 t] w fun e w' => e = .returned (.int .i64 e0) ∧ w = w') (h0 : e0 ≠ 0) :
    Calls Tryz.prog 148 #[p, .int .i64 t, .int .u64 set] w fun e w' => e = .returned (.tuple #[.pointer none, .int .i64 e0]) ∧ w = w' := by
  have HS := hid hs
  have d1 : (e0 != 0) = true := bne_iff_ne.2 h0
  clear hs h0
  go_enter Tryz.func148, Tryz.ntmps148
  go_wp2_with fail
  refine HS.out.mono ?_
  rintro e w' ⟨rfl, rfl⟩
  go_wp2
  go_ret2
  exact ⟨rfl, rfl⟩
set_option maxHeartbeats 1000000 in
theorem ewait_zero (g : Nat) (t0 : 0 ≤ t) (t1 : t < 64) : Calls Tryz.prog 148 #[.pointer (some ⟨g, 0, none⟩), .int .i64 t, .int .u64 0] w fun e w' => e = .returned (.tuple #[.pointer none, .int .i64 2]) ∧ w = w' := by
  have HT := hid (@ethread_ok w g t t0 t1)
  go_enter Tryz.func148, Tryz.ntmps148
  go_wp2_with fail
  refine HT.out.mono ?_
  rintro e w' ⟨rfl, rfl⟩
  go_wp2
  go_ret2
  exact ⟨rfl, rfl⟩

/-- A wait has turned, and nothing else. -/
def EWNextTo (w : World) (wb g : Nat) (t set : Int) (s : EWS) (e : Ending) (w' : World) : Prop := e = .returned (.tuple #[]) ∧ EWaitAt w' wb g t set s ∧ Keep (fun k => k = wb) w w'
set_option maxRecDepth 100000 in
set_option maxHeartbeats 2000000 in
theorem ewnext_do (h : EEngAt w g sb cb mb base sl) (hw : EWaitAt w wb g t set s) (hp : s.pos < 1000000) :
    Calls Tryz.prog 202 #[.pointer (some ⟨wb, 0, none⟩)] w (EWNextTo w wb g t set (s.next sl.length)) := by
  obtain ⟨c0, c1, c2, c3, c4, c5⟩ := hw.cells
  obtain ⟨k0, k1, k2, k3⟩ := h.cells
  have e1 : wb ≠ g := type_ne hw h.head (by decide)
  have z3 : w.frozen? ⟨wb, 3, none⟩ = false := free_of hw 3
  have z5 : w.frozen? ⟨wb, 5, none⟩ = false := free_of hw 5
  have H := hid h
  have W0 := hid hw
  have E1 := hid e1
  have hst : s.next sl.length = if s.pos + 1 = sl.length then { s with pos := s.pos + 1, st := 3 } else { s with pos := s.pos + 1, st := 0 } := rfl
  obtain ⟨s', hs'⟩ : ∃ s', s' = s.next sl.length := ⟨_, rfl⟩
  rw [← hs'] at hst ⊢
  obtain ⟨pos, st, seen⟩ := s
  simp only at c3 c5 hp hst
  have HST := hid hst
  clear h hw c1 c2 c4 k0 k2 k3 e1 hs' hst
  go_enter Tryz.func202, Tryz.ntmps202
  go_wp2
  obtain ⟨W, hW⟩ : ∃ W, W = (w.setCell ⟨wb, 3, none⟩ (.int .i64 ((pos : Int) + 1))).setCell ⟨wb, 5, none⟩ (.int .i64 0) := ⟨_, rfl⟩
  rw [← hW]
  have kW : Keep (fun k => k = wb) w W := by rw [hW]; exact Keep.setCell (Keep.setCell (Keep.refl (fun k => k = wb) w) (.inl rfl) _) (.inl rfl) _
  have aW : EWaitAt W wb g t set ⟨pos + 1, 0, seen⟩ := by
    rw [hW]
    exact set_same (set_same W0.out _) _
  obtain ⟨a0, a1, a2, a3, a4, a5⟩ := aW.cells
  simp only at a3 a5
  have g1 := kW.cell k1 (fun h => E1.out h.symm)
  have z5' : W.frozen? ⟨wb, 5, none⟩ = false := free_of aW 5
  have KW := hid kW
  have AW := hid aW
  clear hW c0 c3 c5 k1 z3 z5 aW kW a1 a2 a4
  have hcast : ((pos + 1 : Nat) : Int) = (pos : Int) + 1 := by omega
  rw [hcast] at a3
  clear hcast
  by_cases hl : pos + 1 = sl.length
  · have d1 : ((pos : Int) + 1 == (sl.length : Int)) = true := beq_iff_eq.2 (by omega)
    have hsv := hid (HST.out.trans (if_pos hl))
    clear hl
    go_quiet (fail)
    go_wp2
    go_end0
    rw [hsv.out]
    exact ⟨rfl, set_same (show (W.drewN nq).heap[wb]? = _ from AW.out) _, Keep.setCell (KW.out.drewN nq) (.inl rfl) _⟩
  · have d1 : ((pos : Int) + 1 == (sl.length : Int)) = false := beq_eq_false_iff_ne.2 (by omega)
    have hsv := hid (HST.out.trans (if_neg hl))
    clear hl
    go_quiet (fail)
    go_wp2
    go_end0
    rw [hsv.out]
    exact ⟨rfl, AW.out, KW.out.drewN nq⟩

/-- A wait has made a step. -/
def EWDoTo (w : World) (g sb cb mb : Nat) (F : Nat → Prop) (base : Int) (sl : List (Int × Bool)) (ws : List Int) (log : List Acc) (wb : Nat) (t set : Int) (s : EWS) (w' : World) : Prop :=
  ∃ F', ESys w' g sb cb mb F' base sl ws log ∧ EWaitAt w' wb g t set s ∧ Keep (fun k => F k ∨ k = wb) w w' ∧ Foot w F F' ∧ ¬ F' wb
def EWStepTo (w : World) (g sb cb mb : Nat) (F : Nat → Prop) (base : Int) (sl : List (Int × Bool)) (ws : List Int) (log : List Acc) (wb : Nat) (t set pc : Int) (s : EWS) (e : Ending) (w' : World) : Prop :=
  e = .returned (.tuple #[.int .u8 pc, .bool (s.st == 3)]) ∧ EWDoTo w g sb cb mb F base sl ws log wb t set s w'

theorem ewdo_mk {w1 w2 : World} {F1 : Nat → Prop} {log' : List Acc} {s' : EWS} (h : ESys w g sb cb mb F base sl ws log) (hw : EWaitAt w wb g t set s) (hF : ¬ F wb) (m1 : MemAt w1 mb F1 ws log') (k1 : Keep F w.drew w1) (f1 : Foot w.drew F F1) (l2 : EWaitAt w2 wb g t set s') (k2 : Keep (fun k => k = wb) w1 w2) :
    EWDoTo w g sb cb mb F base sl ws log' wb t set s' w2 := by
  have lw := lt_of_block hw
  have e1 : wb ≠ g := type_ne hw h.eng.head (by decide)
  have e2 : wb ≠ sb := type_ne hw h.eng.slots (by decide)
  have e3 : wb ≠ cb := type_ne hw h.eng.cap (by decide)
  have n1 : ∀ b : Nat, ¬ F b → b < w.heap.size → ¬ F1 b := fun b hb hl hF' => (f1 b hF').elim hb (fun h => by simp at h; omega)
  have nw := n1 wb hF lw
  have k0 : Keep F w w1 := ((Keep.refl F w).drew).trans k1 (fun _ _ h => h)
  refine ⟨F1, ⟨m1.keep k2 (fun k hk e => nw (by rw [← e]; exact hk)), (h.eng.keep k0 h.f1 h.f2 h.f3).keep k2 (fun e => e1 e.symm) (fun e => e2 e.symm) (fun e => e3 e.symm), n1 g h.f1 (lt_of_block h.eng.head), n1 sb h.f2 (lt_of_block h.eng.slots), n1 cb h.f3 (lt_of_block h.eng.cap)⟩, l2, ?_, fun k hk => (f1 k hk).elim .inl (fun h => .inr (by simpa using h)), nw⟩
  exact (k0.mono (T := fun k => F k ∨ k = wb) (fun _ _ h => .inl h)).trans (k2.mono (T := fun k => F k ∨ k = wb) (fun _ _ h => .inr h)) (fun _ _ h => h)
theorem EWDoTo.quiet {w0 w1 w2 : World} (h : EWDoTo w0 g sb cb mb F base sl ws log wb t set s w1) (k0 : Keep Nil w w0) (k2 : Keep Nil w1 w2) : EWDoTo w g sb cb mb F base sl ws log wb t set s w2 := by
  obtain ⟨F', h1, h2, h3, h4, h5⟩ := h
  exact ⟨F', h1.quiet k2, k2.at h2 (fun h => h), ((k0.mono (T := fun k => F k ∨ k = wb) (fun _ _ h => h.elim)).trans h3 (fun _ _ h => h)).trans k2 (fun _ _ h => h.elim), fun k hk => (h4 k hk).elim .inl (fun h => .inr (by have := k0.size; omega)), h5⟩

theorem elook_set (hL : EWaitAt w wb g t set s) (hG : EEngAt w g sb cb mb base sl) (x : Int) : EWaitAt (w.setCell ⟨wb, 4, none⟩ (.int .u64 x)) wb g t set ⟨s.pos, s.st, x⟩ ∧ EEngAt (w.setCell ⟨wb, 4, none⟩ (.int .u64 x)) g sb cb mb base sl ∧ Keep (fun k => k = wb) w (w.setCell ⟨wb, 4, none⟩ (.int .u64 x)) := by
  have kW : Keep (fun k => k = wb) w (w.setCell ⟨wb, 4, none⟩ (.int .u64 x)) := Keep.setCell (Keep.refl (fun k => k = wb) w) (.inl rfl) _
  have e1 : wb ≠ g := type_ne hL hG.head (by decide)
  have e2 : wb ≠ sb := type_ne hL hG.slots (by decide)
  have e3 : wb ≠ cb := type_ne hL hG.cap (by decide)
  exact ⟨set_same hL _, hG.keep kW (fun e => e1 e.symm) (fun e => e2 e.symm) (fun e => e3 e.symm), kW⟩
set_option maxRecDepth 100000 in
set_option maxHeartbeats 8000000 in
theorem elook_do (h : ESys w g sb cb mb F base sl ws log) (hw : EWaitAt w wb g t set s) (hF : ¬ F wb) (hp : s.pos < 1000000) (hst : s.st = 0) (x : Int) (x0 : 0 ≤ x) (t0 : 0 ≤ t) (t1 : t < 64) (b0 : 0 ≤ base) (b1 : base < 1000000) (hx : ws[(base + 2 * s.pos).toNat]? = some x) (hlog : log.length < 1000000000000) :
    Calls Tryz.prog 203 #[.pointer (some ⟨wb, 0, none⟩)] w fun e w' => e = .returned (.int .u8 17) ∧ EWDoTo w g sb cb mb F base sl ws (log ++ [⟨t, base + 2 * s.pos, 1, x, x, false⟩]) wb t set (s.step sl.length set x) w' := by
  obtain ⟨c0, c1, c2, c3, c4, c5⟩ := hw.cells
  obtain ⟨k0, k1, k2, k3⟩ := h.eng.cells
  have H := hid h
  have HW := hid hw
  have HF := hid hF
  have HX := hid hx
  have KD := hid ((Keep.refl Nil w).drew)
  have K3 := hid k3
  have HST := hid hst
  have HS := hid (s.step_cases set x sl.length)
  obtain ⟨s', hs'⟩ : ∃ s', s' = s.step sl.length set x := ⟨_, rfl⟩
  rw [← hs'] at HS ⊢
  clear h hw hF hx hst hs' k1 c2 c5 k3 c4
  go_enter Tryz.func203, Tryz.ntmps203
  go_wp2
  go_region_held3 (fun w' => w'.cell? ⟨wb, 0, none⟩ = some (.pointer (some ⟨g, 0, none⟩)) ∧ w'.cell? ⟨wb, 1, none⟩ = some (.int .i64 t) ∧ w'.cell? ⟨wb, 3, none⟩ = some (.int .i64 s.pos) ∧ w'.cell? ⟨g, 0, none⟩ = some (.pointer (some ⟨mb, 0, none⟩)) ∧ w'.cell? ⟨g, 2, none⟩ = some (.func (.func 79) #[] #[.pointer (some ⟨cb, 0, none⟩)])) (go_keep)
    (first
      | (go_at_call 79; (with_reducible refine (eat_ok (KD.out.cell K3.out (fun h => h)) b0 b1 s.pos hp).mono ?_); rintro e w1 ⟨rfl, rfl⟩)
      | (go_at_call 177; (with_reducible refine (load_ok (H.out.mem.keep KD.out (fun _ _ h => h)) t (base + 2 * s.pos) x t0 t1 (by omega) HX.out hlog).mono ?_); rintro e w1 ⟨rfl, F1, hm1, hk1, hf1⟩; have hL1 : EWaitAt w1 wb g t set s := hk1.at (KD.out.at HW.out (fun h => h)) HF.out; have hG1 := (H.out.eng.quiet KD.out).keep hk1 H.out.f1 H.out.f2 H.out.f3; obtain ⟨d0, d1, d2, d3, d4, d5⟩ := hL1.cells; obtain ⟨m0, m1, m2, m3⟩ := hG1.cells; have zf : w1.frozen? ⟨wb, 4, none⟩ = false := free_of hL1 4; obtain ⟨aW, gW, kW⟩ := elook_set hL1 hG1 x; obtain ⟨p0, p1, p2, p3, p4, p5⟩ := aW.cells; obtain ⟨n0, n1, n2, n3⟩ := gW.cells; simp only at p3 p4 p5; have z5 : (w1.setCell ⟨wb, 4, none⟩ (.int .u64 x)).frozen? ⟨wb, 5, none⟩ = false := free_of aW 5; have AW := hid aW; have GW := hid gW; have KW := hid kW; clear aW gW kW p2 n1 n3; have M1 := hid hm1; have K1 := hid hk1; have F1' := hid hf1; have L1 := hid hL1; have G1 := hid hG1; clear hm1 hk1 hf1 hL1 hG1 d2 d5 m1 m3))
  generalize w1.setCell ⟨wb, 4, none⟩ (.int .u64 x) = W at *
  clear d0 d1 d3 d4 m0 m2 zf p0 p1 p3 n0 n2
  by_cases hodd : x % 2 = 1
  · have d1 : (x % 2 == 1) = true := beq_iff_eq.2 hodd
    have hs1 : s' = ⟨s.pos, 1, x⟩ := by
      rcases HS.out with ⟨-, -, c⟩ | ⟨-, b, -⟩ | ⟨a, -⟩ | ⟨a, -⟩ | ⟨a, -⟩ | ⟨a, -⟩
      · exact c
      · exact absurd hodd b
      all_goals (have := HST.out; omega)
    have HS1 := hid hs1
    clear hs1 hodd
    go_wp2
    go_ret
    rw [HS1.out]
    refine ⟨rfl, ewdo_mk H.out HW.out HF.out M1.out K1.out F1'.out (w2 := W.setCell ⟨wb, 5, none⟩ (.int .i64 1)) ?_ (Keep.setCell KW.out (.inl rfl) _)⟩
    exact set_same AW.out _
  · have d1 : (x % 2 == 1) = false := beq_eq_false_iff_ne.2 hodd
    have hs1 : s' = EWS.next sl.length ⟨s.pos, s.st, x⟩ := by
      rcases HS.out with ⟨-, b, -⟩ | ⟨-, -, c⟩ | ⟨a, -⟩ | ⟨a, -⟩ | ⟨a, -⟩ | ⟨a, -⟩
      · exact absurd b hodd
      · exact c
      all_goals (have := HST.out; omega)
    have HS1 := hid hs1
    clear hs1 hodd
    go_wp2_with fail
    refine (ewnext_do GW.out AW.out hp).mono ?_
    rintro e w2 ⟨rfl, hl2, hk2⟩
    have L2 := hid hl2
    have K2 := hid hk2
    clear hl2 hk2
    go_wp2
    go_ret
    rw [HS1.out]
    exact ⟨rfl, ewdo_mk H.out HW.out HF.out M1.out K1.out F1'.out L2.out (KW.out.trans K2.out (fun _ _ h => h))⟩
set_option maxRecDepth 100000 in
set_option maxHeartbeats 8000000 in
theorem eawait_do (h : ESys w g sb cb mb F base sl ws log) (hw : EWaitAt w wb g t set s) (hF : ¬ F wb) (hp : s.pos < 1000000) (hst : 2 ≤ s.st) (x : Int) (t0 : 0 ≤ t) (t1 : t < 64) (b0 : 0 ≤ base) (b1 : base < 1000000) (hx : ws[(base + 2 * s.pos).toNat]? = some x) (hlog : log.length < 1000000000000) :
    Calls Tryz.prog 205 #[.pointer (some ⟨wb, 0, none⟩)] w fun e w' => e = .returned (.int .u8 17) ∧ EWDoTo w g sb cb mb F base sl ws (log ++ [⟨t, base + 2 * s.pos, 1, x, x, false⟩]) wb t set (s.step sl.length set x) w' := by
  obtain ⟨c0, c1, c2, c3, c4, c5⟩ := hw.cells
  obtain ⟨k0, k1, k2, k3⟩ := h.eng.cells
  have H := hid h
  have HW := hid hw
  have HF := hid hF
  have HX := hid hx
  have KD := hid ((Keep.refl Nil w).drew)
  have K3 := hid k3
  have HST := hid hst
  have HS := hid (s.step_cases set x sl.length)
  obtain ⟨s', hs'⟩ : ∃ s', s' = s.step sl.length set x := ⟨_, rfl⟩
  rw [← hs'] at HS ⊢
  clear h hw hF hx hst hs' k1 c2 c5 k3 c4
  go_enter Tryz.func205, Tryz.ntmps205
  go_wp2
  go_region_held3 (fun w' => w'.cell? ⟨wb, 0, none⟩ = some (.pointer (some ⟨g, 0, none⟩)) ∧ w'.cell? ⟨wb, 1, none⟩ = some (.int .i64 t) ∧ w'.cell? ⟨wb, 3, none⟩ = some (.int .i64 s.pos) ∧ w'.cell? ⟨g, 0, none⟩ = some (.pointer (some ⟨mb, 0, none⟩)) ∧ w'.cell? ⟨g, 2, none⟩ = some (.func (.func 79) #[] #[.pointer (some ⟨cb, 0, none⟩)])) (go_keep)
    (first
      | (go_at_call 79; (with_reducible refine (eat_ok (KD.out.cell K3.out (fun h => h)) b0 b1 s.pos hp).mono ?_); rintro e w1 ⟨rfl, rfl⟩)
      | (go_at_call 177; (with_reducible refine (load_ok (H.out.mem.keep KD.out (fun _ _ h => h)) t (base + 2 * s.pos) x t0 t1 (by omega) HX.out hlog).mono ?_); rintro e w1 ⟨rfl, F1, hm1, hk1, hf1⟩; have hL1 : EWaitAt w1 wb g t set s := hk1.at (KD.out.at HW.out (fun h => h)) HF.out; have hG1 := (H.out.eng.quiet KD.out).keep hk1 H.out.f1 H.out.f2 H.out.f3; obtain ⟨d0, d1, d2, d3, d4, d5⟩ := hL1.cells; obtain ⟨m0, m1, m2, m3⟩ := hG1.cells; have M1 := hid hm1; have K1 := hid hk1; have F1' := hid hf1; have L1 := hid hL1; have G1 := hid hG1; clear hm1 hk1 hf1 hL1 hG1 d2 d5 m1 m3))
  by_cases heq : x = s.seen
  · have e1 : (x != s.seen) = false := by simp [heq]
    have hs1 : s' = s := by
      rcases HS.out with ⟨a, -⟩ | ⟨a, -⟩ | ⟨a, -⟩ | ⟨a, -⟩ | ⟨-, -, c⟩ | ⟨-, b, -⟩
      · have := HST.out; omega
      · have := HST.out; omega
      · have := HST.out; omega
      · have := HST.out; omega
      · exact c
      · exact absurd heq b
    have HS1 := hid hs1
    clear hs1 heq
    go_wp2
    go_ret
    rw [HS1.out]
    exact ⟨rfl, ewdo_mk H.out HW.out HF.out M1.out K1.out F1'.out L1.out (Keep.refl _ _)⟩
  · have e1 : (x != s.seen) = true := by simp [heq]
    have hs1 : s' = s.next sl.length := by
      rcases HS.out with ⟨a, -⟩ | ⟨a, -⟩ | ⟨a, -⟩ | ⟨a, -⟩ | ⟨-, b, -⟩ | ⟨-, -, c⟩
      · have := HST.out; omega
      · have := HST.out; omega
      · have := HST.out; omega
      · have := HST.out; omega
      · exact absurd b heq
      · exact c
    have HS1 := hid hs1
    clear hs1 heq
    go_wp2_with fail
    refine (ewnext_do G1.out L1.out hp).mono ?_
    rintro e w2 ⟨rfl, hl2, hk2⟩
    have L2 := hid hl2
    have K2 := hid hk2
    clear hl2 hk2
    go_wp2
    go_ret
    rw [HS1.out]
    exact ⟨rfl, ewdo_mk H.out HW.out HF.out M1.out K1.out F1'.out L2.out K2.out⟩
end
end Go.Proofs.YtldjlcdccnnogaaGreat

/-! each: the steps of a wait: contracts. -/
namespace Go.Proofs.YtldjlcdccnnogaaGreat
open Go.RowKit Go.Lf
section
variable {w : World} {g sb cb mb : Nat} {F : Nat → Prop} {base : Int} {sl : List (Int × Bool)} {ws : List Int} {log : List Acc} {wb : Nat} {t : Int} {s : EWS}

theorem emark_set {set : Int} (hL : EWaitAt w wb g t set s) (hG : EEngAt w g sb cb mb base sl) (k : Nat) : EWaitAt (w.setCell ⟨wb, 5, none⟩ (.int .i64 k)) wb g t set ⟨s.pos, k, s.seen⟩ ∧ EEngAt (w.setCell ⟨wb, 5, none⟩ (.int .i64 k)) g sb cb mb base sl ∧ Keep (fun k => k = wb) w (w.setCell ⟨wb, 5, none⟩ (.int .i64 k)) := by
  have kW : Keep (fun k => k = wb) w (w.setCell ⟨wb, 5, none⟩ (.int .i64 k)) := Keep.setCell (Keep.refl (fun k => k = wb) w) (.inl rfl) _
  have e1 : wb ≠ g := type_ne hL hG.head (by decide)
  have e2 : wb ≠ sb := type_ne hL hG.slots (by decide)
  have e3 : wb ≠ cb := type_ne hL hG.cap (by decide)
  exact ⟨set_same hL _, hG.keep kW (fun e => e1 e.symm) (fun e => e2 e.symm) (fun e => e3 e.symm), kW⟩
set_option maxRecDepth 100000 in
set_option maxHeartbeats 8000000 in
theorem ewmark_do {sn : Nat} (hsn : sn < 18446744073709551616) (h : ESys w g sb cb mb F base sl ws log) (hw : EWaitAt w wb g t (sn : Int) s) (hF : ¬ F wb) (hp : s.pos < 1000000) (hst : s.st = 1) (u : Nat) (hu : u < 64) (t0 : 0 ≤ t) (t1 : t < 64) (b0 : 0 ≤ base) (b1 : base < 1000000) (hx : ws[(base + 2 * s.pos + 1).toNat]? = some (u : Int)) (hlog : log.length < 1000000000000) :
    Calls Tryz.prog 204 #[.pointer (some ⟨wb, 0, none⟩)] w fun e w' => e = .returned (.int .u8 18) ∧ EWDoTo w g sb cb mb F base sl ws (log ++ [⟨t, base + 2 * s.pos + 1, 1, u, u, false⟩]) wb t sn (s.step sl.length sn u) w' := by
  obtain ⟨c0, c1, c2, c3, c4, c5⟩ := hw.cells
  obtain ⟨k0, k1, k2, k3⟩ := h.eng.cells
  have hw2 : IntKind.i64.wrap (base + 2 * s.pos + 1) = base + 2 * s.pos + 1 := by rw [IntKind.wrap_i64]; omega
  have hw3 : IntKind.i64.wrap (u : Int) = u := by rw [IntKind.wrap_i64]; omega
  have H := hid h
  have HW := hid hw
  have HF := hid hF
  have HX := hid hx
  have KD := hid ((Keep.refl Nil w).drew)
  have K3 := hid k3
  have HST := hid hst
  have HS := hid (s.step_cases (sn : Int) (u : Int) sl.length)
  obtain ⟨s', hs'⟩ : ∃ s', s' = s.step sl.length (sn : Int) (u : Int) := ⟨_, rfl⟩
  rw [← hs'] at HS ⊢
  clear h hw hF hx hst hs' k1 c2 c5 k3 c4
  go_enter Tryz.func204, Tryz.ntmps204
  go_wp2
  go_region_held3 (fun w' => w'.cell? ⟨wb, 0, none⟩ = some (.pointer (some ⟨g, 0, none⟩)) ∧ w'.cell? ⟨wb, 1, none⟩ = some (.int .i64 t) ∧ w'.cell? ⟨wb, 3, none⟩ = some (.int .i64 s.pos) ∧ w'.cell? ⟨g, 0, none⟩ = some (.pointer (some ⟨mb, 0, none⟩)) ∧ w'.cell? ⟨g, 2, none⟩ = some (.func (.func 79) #[] #[.pointer (some ⟨cb, 0, none⟩)])) (go_keep)
    (first
      | (go_at_call 79; (with_reducible refine (eat_ok (KD.out.cell K3.out (fun h => h)) b0 b1 s.pos hp).mono ?_); rintro e w1 ⟨rfl, rfl⟩)
      | (go_at_call 177; (with_reducible refine (load_ok (H.out.mem.keep KD.out (fun _ _ h => h)) t (base + 2 * s.pos + 1) u t0 t1 (by omega) HX.out hlog).mono ?_); rintro e w1 ⟨rfl, F1, hm1, hk1, hf1⟩; have hL1 : EWaitAt w1 wb g t sn s := hk1.at (KD.out.at HW.out (fun h => h)) HF.out; have hG1 := (H.out.eng.quiet KD.out).keep hk1 H.out.f1 H.out.f2 H.out.f3; obtain ⟨d0, d1, d2, d3, d4, d5⟩ := hL1.cells; obtain ⟨m0, m1, m2, m3⟩ := hG1.cells; have zf : w1.frozen? ⟨wb, 5, none⟩ = false := free_of hL1 5; have M1 := hid hm1; have K1 := hid hk1; have F1' := hid hf1; have L1 := hid hL1; have G1 := hid hG1; clear hm1 hk1 hf1 hL1 hG1 m1 m3))
  obtain ⟨aW, gW, kW⟩ := emark_set L1.out G1.out 2
  obtain ⟨W, hW⟩ : ∃ W, W = w1.setCell ⟨wb, 5, none⟩ (.int .i64 ((2 : Nat) : Int)) := ⟨_, rfl⟩
  rw [← hW] at aW gW kW
  have hW2 : W = w1.setCell ⟨wb, 5, none⟩ (.int .i64 2) := hW
  have AW := hid aW
  have GW := hid gW
  have KW := hid kW
  clear aW gW kW hW d0 d1 d2 d3 d4 m0 m2
  have kA : Keep Nil W (W.alloc (.cells #[.int .i64 u] 3)) := (Keep.refl Nil W).alloc _
  have nA : (W.alloc (.cells #[.int .i64 u] 3)).cell? ⟨W.heap.size, 0, none⟩ = some (.int .i64 u) := by rw [cell_of (heap_alloc_new W _)]; rfl
  have HE := hid (eset_one W.heap.size u hu nA)
  have zW : W.heap.size = w1.heap.size := by rw [hW2]; simp
  have hA := (show EWaitAt (W.alloc (.cells #[.int .i64 u] 3)) wb g t sn ⟨s.pos, 2, s.seen⟩ from kA.at AW.out (fun h => h)).cells
  have q2 := hA.2.2.1
  have hand := and_one hu hsn
  have AA := hid (show EWaitAt (W.alloc (.cells #[.int .i64 u] 3)) wb g t sn ⟨s.pos, 2, s.seen⟩ from kA.at AW.out (fun h => h))
  have GA := hid (GW.out.quiet kA)
  have KA := hid (KW.out.trans kA (fun _ _ h => h.elim))
  clear kA nA hA
  rw [zW, hW2] at HE
  rw [hW2] at q2 AA GA KA
  have HC := hid (conc_nat sn u hu)
  clear zW hW2 AW GW KW
  go_wp2_with fail
  refine HE.out.mono ?_
  rintro e w3 ⟨rfl, rfl⟩
  by_cases hb : sn.testBit u = true
  · have hand2 : (Go.bits .and .u64 (2 ^ u : Int) (sn : Int) == 0) = false := by rw [hand, hb]; rfl
    have hs1 : s' = ⟨s.pos, 2, s.seen⟩ := by
      rcases HS.out with ⟨a, -⟩ | ⟨a, -⟩ | ⟨-, -, c⟩ | ⟨-, b, -⟩ | ⟨a, -⟩ | ⟨a, -⟩
      · have := HST.out; omega
      · have := HST.out; omega
      · exact c
      · rw [HC.out, hb] at b; cases b
      · have := HST.out; omega
      · have := HST.out; omega
    have HS1 := hid hs1
    clear hs1 hb hand
    go_wp2
    go_ret
    rw [HS1.out]
    exact ⟨rfl, ewdo_mk H.out HW.out HF.out M1.out K1.out F1'.out AA.out KA.out⟩
  · have hb' : sn.testBit u = false := by simpa using hb
    have hand2 : (Go.bits .and .u64 (2 ^ u : Int) (sn : Int) == 0) = true := by rw [hand, hb']; rfl
    have hs1 : s' = EWS.next sl.length ⟨s.pos, 2, s.seen⟩ := by
      rcases HS.out with ⟨a, -⟩ | ⟨a, -⟩ | ⟨-, b, -⟩ | ⟨-, -, c⟩ | ⟨a, -⟩ | ⟨a, -⟩
      · have := HST.out; omega
      · have := HST.out; omega
      · rw [HC.out, hb'] at b; cases b
      · exact c
      · have := HST.out; omega
      · have := HST.out; omega
    have HS1 := hid hs1
    clear hs1 hb hb' hand
    go_wp2_with fail
    refine (ewnext_do GA.out AA.out hp).mono ?_
    rintro e w4 ⟨rfl, hl2, hk2⟩
    have L2 := hid hl2
    have K2 := hid hk2
    clear hl2 hk2
    go_wp2
    go_ret
    rw [HS1.out]
    exact ⟨rfl, ewdo_mk H.out HW.out HF.out M1.out K1.out F1'.out L2.out (KA.out.trans K2.out (fun _ _ h => h))⟩

/-- What a wait's next step does. -/
def ewpc (k : Nat) : Int := if k = 0 then 17 else if k = 1 then 18 else if k = 2 then 17 else 0
set_option maxRecDepth 100000 in
set_option maxHeartbeats 4000000 in
theorem ewstep_of {log' : List Acc} {set : Int} {s' : EWS} (hw : EWaitAt w wb g t set s) (h3 : s.st < 3)
    (hd : ∀ w1, Keep Nil w w1 → Calls Tryz.prog (if s.st = 0 then 203 else if s.st = 1 then 204 else 205) #[.pointer (some ⟨wb, 0, none⟩)] w1 fun e w' => e = .returned (.int .u8 (ewpc s.st)) ∧ EWDoTo w1 g sb cb mb F base sl ws log' wb t set s' w') :
    Calls Tryz.prog 201 #[.pointer (some ⟨wb, 0, none⟩)] w (EWStepTo w g sb cb mb F base sl ws log' wb t set (ewpc s.st) s') := by
  have c5 := hw.cells.2.2.2.2.2
  have lw := lt_of_block hw
  have HD := hid (hd _ ((Keep.refl Nil w).alloc (.cells #[.func (.func 203) #[] #[], .func (.func 204) #[] #[], .func (.func 205) #[] #[]] 332)))
  clear hw hd
  have : s.st = 0 ∨ s.st = 1 ∨ s.st = 2 := by omega
  clear h3
  obtain ⟨pos, st, seen⟩ := s
  simp only at this c5 HD ⊢
  rcases this with rfl | rfl | rfl
  all_goals
    simp only [ewpc] at HD ⊢
    simp only [reduceIte, reduceCtorEq, Nat.one_ne_zero] at HD ⊢
    go_enter Tryz.func201, Tryz.ntmps201
    go_wp2_with fail
    refine HD.out.mono ?_
    rintro e w2 ⟨rfl, hq⟩
    have HQ := hid (hq.quiet ((Keep.refl Nil w).alloc _) (Keep.refl Nil w2))
    obtain ⟨F2, -, hw2, -, -, -⟩ := hq
    have d5 := hw2.cells.2.2.2.2.2
    have hbe : ((s'.st : Int) == 3) = (s'.st == 3) := by
      rw [Bool.eq_iff_iff, beq_iff_eq, beq_iff_eq]; omega
    clear hw2 HD c5
    go_wp2
    go_quiet (fail)
    go_wp2
    go_ret2
    exact ⟨rfl, HQ.out.quiet (Keep.refl Nil w) ((Keep.refl Nil w2).drewN nq)⟩

/-- A step of a wait. -/
theorem ewait_step {sn : Nat} (hsn : sn < 18446744073709551616) (h : ESys w g sb cb mb F base sl ws log) (hw : EWaitAt w wb g t (sn : Int) s) (hF : ¬ F wb) (hp : s.pos < 1000000) (hst : s.st < 3) (x : Int) (x0 : 0 ≤ x) (x1 : s.st = 1 → x < 64) (t0 : 0 ≤ t) (t1 : t < 64) (b0 : 0 ≤ base) (b1 : base < 1000000) (hx : ws[(base + s.addr).toNat]? = some x) (hlog : log.length < 1000000000000) :
    Calls Tryz.prog 201 #[.pointer (some ⟨wb, 0, none⟩)] w (EWStepTo w g sb cb mb F base sl ws (log ++ [⟨t, base + s.addr, 1, x, x, false⟩]) wb t sn (ewpc s.st) (s.step sl.length sn x)) := by
  refine ewstep_of hw hst (fun w1 k1 => ?_)
  have h1 := h.quiet k1
  have hw1 : EWaitAt w1 wb g t (sn : Int) s := k1.at hw (fun h => h)
  unfold EWS.addr at hx ⊢
  have : s.st = 0 ∨ s.st = 1 ∨ s.st = 2 := by omega
  rcases this with e | e | e
  · rw [if_pos e]
    rw [if_neg (by omega)] at hx ⊢
    have e2 : base + ((2 * s.pos + 0 : Nat) : Int) = base + 2 * s.pos := by omega
    rw [e2] at hx ⊢
    have := elook_do h1 hw1 hF hp e x x0 t0 t1 b0 b1 hx hlog
    rw [e]
    exact this
  · rw [if_neg (by omega), if_pos e]
    rw [if_pos e] at hx ⊢
    have e2 : base + ((2 * s.pos + 1 : Nat) : Int) = base + 2 * s.pos + 1 := by omega
    rw [e2] at hx ⊢
    obtain ⟨u, rfl⟩ := Int.eq_ofNat_of_zero_le x0
    have := ewmark_do hsn h1 hw1 hF hp e u (by have := x1 e; omega) t0 t1 b0 b1 hx hlog
    rw [e]
    exact this
  · rw [if_neg (by omega), if_neg (by omega)]
    rw [if_neg (by omega)] at hx ⊢
    have e2 : base + ((2 * s.pos + 0 : Nat) : Int) = base + 2 * s.pos := by omega
    rw [e2] at hx ⊢
    have := eawait_do h1 hw1 hF hp (by omega) x t0 t1 b0 b1 hx hlog
    rw [e]
    exact this
set_option maxHeartbeats 1000000 in
theorem ewait_idle {set : Int} (hw : EWaitAt w wb g t set s) (hst : s.st = 3) : Calls Tryz.prog 201 #[.pointer (some ⟨wb, 0, none⟩)] w fun e w' => e = .returned (.tuple #[.int .u8 0, .bool false]) ∧ w = w' := by
  have c5 := hw.cells.2.2.2.2.2
  rw [hst] at c5
  clear hw hst
  go_enter Tryz.func201, Tryz.ntmps201
  go_wp2
  go_ret2
  exact ⟨rfl, rfl⟩
set_option maxHeartbeats 1000000 in
theorem ewait_nil : Calls Tryz.prog 201 #[.pointer none] w fun e w' => e = .returned (.tuple #[.int .u8 0, .bool false]) ∧ w = w' := by
  go_enter Tryz.func201, Tryz.ntmps201
  go_wp2
  go_ret2
  exact ⟨rfl, rfl⟩
set_option maxHeartbeats 1000000 in
theorem ewnext_any {set : Int} (hw : EWaitAt w wb g t set s) (hk : s.st ≤ 3) : Calls Tryz.prog 200 #[.pointer (some ⟨wb, 0, none⟩)] w fun e w' => e = .returned (.int .u8 (ewpc s.st)) ∧ Keep Nil w w' := by
  have a4 := hw.cells.2.2.2.2.2
  have lb := lt_of_block hw
  clear hw
  obtain ⟨pos, st, seen⟩ := s
  simp only at hk a4 ⊢
  have : st = 0 ∨ st = 1 ∨ st = 2 ∨ st = 3 := by omega
  clear hk
  rcases this with rfl | rfl | rfl | rfl
  all_goals
    go_enter Tryz.func200, Tryz.ntmps200
    go_wp2
    go_ret
    exact ⟨rfl, (Keep.refl Nil w).alloc _⟩
set_option maxHeartbeats 1000000 in
theorem ewnext_nil : Calls Tryz.prog 200 #[.pointer none] w fun e w' => e = .returned (.int .u8 0) ∧ w = w' := by
  go_enter Tryz.func200, Tryz.ntmps200
  go_wp2
  go_ret
  exact ⟨rfl, rfl⟩
end
end Go.Proofs.YtldjlcdccnnogaaGreat

/-! EachSteps: the state of a run of both engines, as data. -/
set_option linter.unusedVariables false
set_option linter.unusedSimpArgs false
namespace Go.Lf
/-- An operation: entering, with k steps made, or a wait. -/
inductive EOp where
  | en (t : Int) (i : Nat) (v : Int) (k : Nat)
  | wa (t : Int) (set : Nat) (s : EWS)
/-- A slot: its number; 0 idle, 1 begun, 2 entered. -/
structure ESt where
  c : List (Int × Nat)
  ws : List Int
  log : List Acc
  ops : List EOp
def COk (c : List (Int × Nat)) (K : Nat) : Prop := ∀ (i : Nat) (p : Int × Nat), c[i]? = some p → 0 ≤ p.1 ∧ p.1 ≤ K ∧ p.2 ≤ 2 ∧ (p.2 = 2 ↔ p.1 % 2 = 1)
def EOp.ok (n : Nat) (c : List (Int × Nat)) : EOp → Prop
  | .en t i v k => 0 ≤ t ∧ t < 64 ∧ i < n ∧ 0 ≤ v ∧ v < 64 ∧ k ≤ 2 ∧ (k < 2 → ∃ x, c[i]? = some (x, 1))
  | .wa t set s => 0 ≤ t ∧ t < 64 ∧ set < 18446744073709551616 ∧ s.st ≤ 3 ∧ (s.st < 3 → s.pos < n)
def EOp.slot : EOp → Option Nat
  | .en _ i _ k => if k < 2 then some i else none
  | .wa _ _ _ => none
structure ESt.ok (S : ESt) (b n K : Nat) : Prop where
  lc : S.c.length = n
  lw : b + 2 * n ≤ S.ws.length
  wpos : ∀ x ∈ S.ws, 0 ≤ x
  vals : ∀ i, i < n → ∃ u : Nat, u < 64 ∧ S.ws[b + 2 * i + 1]? = some (u : Int)
  llog : S.log.length ≤ K
  cok : COk S.c K
  ops : ∀ (i : Nat) (o : EOp), S.ops[i]? = some o → o.ok n S.c
  solo : ∀ (i j : Nat) (o p : EOp) (s : Nat), S.ops[i]? = some o → S.ops[j]? = some p → i ≠ j → o.slot = some s → p.slot ≠ some s
theorem ESt.ok.mono {S : ESt} {b n K K' : Nat} (h : S.ok b n K) (hK : K ≤ K') : S.ok b n K' :=
  ⟨h.lc, h.lw, h.wpos, h.vals, by have := h.llog; omega, fun i p hp => by obtain ⟨a, b, c, d⟩ := h.cok i p hp; exact ⟨a, by omega, c, d⟩, h.ops, h.solo⟩
theorem COk.put {c : List (Int × Nat)} {K : Nat} (h : COk c K) {i : Nat} {x : Int} {s : Nat} (x0 : 0 ≤ x) (x1 : x ≤ K + 1) (s0 : s ≤ 2) (s1 : s = 2 ↔ x % 2 = 1) : COk (c.set i (x, s)) (K + 1) := by
  intro j p hp
  rcases set_cases hp with ⟨-, e⟩ | ⟨-, e⟩
  · subst e; exact ⟨x0, by simp only; omega, s0, s1⟩
  · obtain ⟨a, b, d, e⟩ := h j p e; exact ⟨a, by omega, d, e⟩
theorem COk.mono {c : List (Int × Nat)} {K K' : Nat} (h : COk c K) (hK : K ≤ K') : COk c K' := fun i p hp => by obtain ⟨a, b, c, d⟩ := h i p hp; exact ⟨a, by omega, c, d⟩
theorem pos_set {ws : List Int} (h : ∀ x ∈ ws, 0 ≤ x) {i : Nat} {v : Int} (hv : 0 ≤ v) : ∀ x ∈ ws.set i v, 0 ≤ x := fun x hx => by
  rcases List.mem_or_eq_of_mem_set hx with e | e
  · exact h x e
  · omega
theorem vals_set {ws : List Int} {b n j : Nat} {v : Int} (h : ∀ i, i < n → ∃ u : Nat, u < 64 ∧ ws[b + 2 * i + 1]? = some (u : Int)) (hv : (∀ i, i < n → j ≠ b + 2 * i + 1) ∨ (0 ≤ v ∧ v < 64)) : ∀ i, i < n → ∃ u : Nat, u < 64 ∧ (ws.set j v)[b + 2 * i + 1]? = some (u : Int) := by
  intro i hi
  obtain ⟨u, hu, hx⟩ := h i hi
  by_cases e : j = b + 2 * i + 1
  · rcases hv with hv | ⟨v0, v1⟩
    · exact absurd e (hv i hi)
    · exact ⟨v.toNat, by omega, by rw [e, put_self hx]; congr 1; omega⟩
  · exact ⟨u, hu, by rw [List.getElem?_set, if_neg e]; exact hx⟩
theorem EWS.step_any (set x : Int) (s : EWS) (n : Nat) (h1 : s.st ≤ 3) (h2 : s.pos < n) : (s.step n set x).st ≤ 3 ∧ ((s.step n set x).st < 3 → (s.step n set x).pos < n) := by
  have nx : ∀ u : EWS, u.pos = s.pos → (u.next n).st ≤ 3 ∧ ((u.next n).st < 3 → (u.next n).pos < n) := by
    intro u hu
    obtain ⟨a1, a2, a3⟩ := u.next_pos n
    rcases a3 with ⟨a, b⟩ | ⟨a, b⟩
    · exact ⟨by omega, fun h => by omega⟩
    · exact ⟨by omega, fun _ => by omega⟩
  rcases s.step_cases set x n with ⟨a, b, c⟩ | ⟨a, b, c⟩ | ⟨a, b, c⟩ | ⟨a, b, c⟩ | ⟨a, b, c⟩ | ⟨a, b, c⟩
  · rw [c]; exact ⟨by simp, fun _ => h2⟩
  · rw [c]; exact nx _ rfl
  · rw [c]; exact ⟨by simp, fun _ => h2⟩
  · rw [c]; exact nx _ rfl
  · rw [c]; exact ⟨h1, fun _ => h2⟩
  · rw [c]; exact nx _ rfl
/-- Operation t makes a step. -/
inductive EStep (b n : Nat) (S : ESt) (t : Nat) : ESt → Int → Bool → Prop where
  | mark {th : Int} {i : Nat} {v y : Int} (h : S.ops[t]? = some (.en th i v 0)) (hy : S.ws[((b : Int) + 2 * i + 1).toNat]? = some y) : EStep b n S t ⟨S.c, S.ws.set ((b : Int) + 2 * i + 1).toNat v, S.log ++ [⟨th, (b : Int) + 2 * i + 1, 2, y, v, false⟩], S.ops.set t (.en th i v 1)⟩ 14 false
  | seq {th : Int} {i : Nat} {v x y : Int} (h : S.ops[t]? = some (.en th i v 1)) (hx : S.c[i]? = some (x, 1)) (hy : S.ws[((b : Int) + 2 * i).toNat]? = some y) : EStep b n S t ⟨S.c.set i (x + 1, 2), S.ws.set ((b : Int) + 2 * i).toNat (x + 1), S.log ++ [⟨th, (b : Int) + 2 * i, 2, y, x + 1, false⟩], S.ops.set t (.en th i v 2)⟩ 13 true
  | idle {th : Int} {i : Nat} {v : Int} (h : S.ops[t]? = some (.en th i v 2)) : EStep b n S t S 0 false
  | wait {th : Int} {set : Nat} {s : EWS} {x : Int} (h : S.ops[t]? = some (.wa th set s)) (hs : s.st < 3) (hx : S.ws[((b : Int) + s.addr).toNat]? = some x) : EStep b n S t ⟨S.c, S.ws, S.log ++ [⟨th, (b : Int) + s.addr, 1, x, x, false⟩], S.ops.set t (.wa th set (s.step n set x))⟩ (if s.st = 0 then 17 else if s.st = 1 then 18 else if s.st = 2 then 17 else 0) ((s.step n set x).st == 3)
  | over {th : Int} {set : Nat} {s : EWS} (h : S.ops[t]? = some (.wa th set s)) (hs : s.st = 3) : EStep b n S t S 0 false

section
variable {S : ESt} {b n K : Nat}
theorem ESt.ok.one (h : S.ok b n K) {t : Nat} {o o' : EOp} (ho : S.ops[t]? = some o) {c' : List (Int × Nat)} {ws' : List Int} {log' : List Acc} (lc : c'.length = n) (lw : ws'.length = S.ws.length) (wp : ∀ x ∈ ws', 0 ≤ x) (vs : ∀ i, i < n → ∃ u : Nat, u < 64 ∧ ws'[b + 2 * i + 1]? = some (u : Int)) (ll : log'.length ≤ K + 1) (co : COk c' (K + 1)) (hok : o'.ok n c') (hold : ∀ (i : Nat) (p : EOp), i ≠ t → S.ops[i]? = some p → p.ok n c') (hsl : ∀ s, o'.slot = some s → o.slot = some s) :
    ESt.ok ⟨c', ws', log', S.ops.set t o'⟩ b n (K + 1) := by
  refine ⟨lc, by rw [lw]; exact h.lw, wp, vs, ll, co, fun i p hp => ?_, fun i j p q s hp hq hij hs => ?_⟩
  · rcases set_cases hp with ⟨i1, i2⟩ | ⟨i1, i2⟩
    · subst i2; exact hok
    · exact hold i p i1 i2
  · rcases set_cases hp with ⟨i1, i2⟩ | ⟨i1, i2⟩ <;> rcases set_cases hq with ⟨j1, j2⟩ | ⟨j1, j2⟩
    · exact absurd (i1.trans j1.symm) hij
    · subst i2; exact h.solo t j o q s ho j2 (fun e => j1 e.symm) (hsl s hs)
    · subst j2; exact fun e => h.solo i t p o s i2 ho i1 hs (hsl s e)
    · exact h.solo i j p q s i2 j2 hij hs
/-- An operation makes a step, and only one. -/
theorem estep_ex (h : S.ok b n K) {t : Nat} {o : EOp} (ho : S.ops[t]? = some o) : ∃ S' pc d, EStep b n S t S' pc d ∧ S'.ok b n (K + 1) := by
  have hok := h.ops t o ho
  have lw := h.lw
  have ll := h.llog
  cases o with
  | en th i v k =>
    obtain ⟨t0, t1, hi, v0, v1, hk, hc⟩ := hok
    have : k = 0 ∨ k = 1 ∨ k = 2 := by omega
    rcases this with rfl | rfl | rfl
    · obtain ⟨y, hy⟩ : ∃ y, S.ws[((b : Int) + 2 * i + 1).toNat]? = some y := ⟨_, List.getElem?_eq_getElem (by omega)⟩
      exact ⟨_, _, _, .mark ho hy, h.one ho h.lc (by simp) (pos_set h.wpos v0) (vals_set h.vals (.inr ⟨v0, v1⟩)) (by simp; omega) (h.cok.mono (by omega)) ⟨t0, t1, hi, v0, v1, by omega, fun _ => hc (by omega)⟩ (fun i p _ hp => h.ops i p hp) (fun s hs => hs)⟩
    · obtain ⟨x, hx⟩ := hc (by omega)
      obtain ⟨y, hy⟩ : ∃ y, S.ws[((b : Int) + 2 * i).toNat]? = some y := ⟨_, List.getElem?_eq_getElem (by omega)⟩
      obtain ⟨x0, x1, -, x2⟩ := h.cok i _ hx
      simp only at x0 x1 x2
      have hev : x % 2 = 0 := by
        have : ¬ x % 2 = 1 := fun e => by have := x2.2 e; omega
        omega
      refine ⟨_, _, _, .seq ho hx hy, h.one ho (by simp [h.lc]) (by simp) (pos_set h.wpos (by omega)) (vals_set h.vals (.inl fun j hj => by omega)) (by simp; omega) (h.cok.put (by omega) (by omega) (by omega) (by constructor <;> (intro _; omega))) ⟨t0, t1, hi, v0, v1, by omega, fun h => by omega⟩ (fun j p hj hp => ?_) (fun s hs => by simp [EOp.slot] at hs)⟩
      have hp2 := h.ops j p hp
      cases p with
      | wa => exact hp2
      | en t' i' v' k' =>
        obtain ⟨a1, a2, a3, a4, a5, a6, a7⟩ := hp2
        refine ⟨a1, a2, a3, a4, a5, a6, fun hl => ?_⟩
        obtain ⟨z, hz⟩ := a7 hl
        refine ⟨z, ?_⟩
        rw [List.getElem?_set, if_neg (fun e => ?_)]
        · exact hz
        · subst e
          exact h.solo j t _ _ i hp ho hj (if_pos hl) rfl
    · exact ⟨_, _, _, .idle ho, h.mono (by omega)⟩
  | wa th set s =>
    obtain ⟨t0, t1, hs, h3, hp⟩ := hok
    by_cases e : s.st < 3
    · have hpn := hp e
      obtain ⟨x, hx⟩ : ∃ x, S.ws[((b : Int) + s.addr).toNat]? = some x := ⟨_, List.getElem?_eq_getElem (by unfold EWS.addr; split <;> omega)⟩
      obtain ⟨q1, q2⟩ := EWS.step_any set x s n h3 hpn
      exact ⟨_, _, _, .wait ho e hx, h.one ho h.lc rfl h.wpos h.vals (by simp; omega) (h.cok.mono (by omega)) ⟨t0, t1, hs, q1, q2⟩ (fun i p _ hp => h.ops i p hp) (fun s hs => by simp [EOp.slot] at hs)⟩
    · exact ⟨_, _, _, .over ho (by omega), h.mono (by omega)⟩
/-- A slot is begun. -/
def ESt.begun (S : ESt) (t : Int) (i : Nat) (v x : Int) : ESt := ⟨S.c.set i (x, 1), S.ws, S.log, S.ops ++ [.en t i v 0]⟩
def ESt.left (S : ESt) (b : Nat) (t : Int) (i : Nat) (x y : Int) : ESt := ⟨S.c.set i (x + 1, 0), S.ws.set ((b : Int) + 2 * i).toNat (x + 1), S.log ++ [⟨t, (b : Int) + 2 * i, 2, y, x + 1, false⟩], S.ops⟩
def ESt.waits (S : ESt) (t : Int) (set : Nat) : ESt := ⟨S.c, S.ws, S.log, S.ops ++ [.wa t set ⟨0, 0, 0⟩]⟩
theorem ESt.ok.begun (h : S.ok b n K) {t v x : Int} {i : Nat} (t0 : 0 ≤ t) (t1 : t < 64) (v0 : 0 ≤ v) (v1 : v < 64) (hx : S.c[i]? = some (x, 0)) : (S.begun t i v x).ok b n (K + 1) := by
  obtain ⟨x0, x1, -, x3⟩ := h.cok i _ hx
  simp only at x0 x1 x3
  have hi : i < n := by have := (List.getElem?_eq_some_iff.1 hx).1; have := h.lc; omega
  have live : ∀ (j : Nat) (p : EOp), S.ops[j]? = some p → p.slot ≠ some i := by
    intro j p hp hs
    have hok := h.ops j p hp
    cases p with
    | wa => simp [EOp.slot] at hs
    | en t' i' v' k' =>
      simp only [EOp.slot] at hs
      split at hs
      · rename_i hk
        simp only [Option.some.injEq] at hs
        subst hs
        obtain ⟨-, -, -, -, -, -, h7⟩ := hok
        obtain ⟨z, hz⟩ := h7 hk
        rw [hx] at hz; cases hz
      · cases hs
  refine ⟨by simp [ESt.begun, h.lc], h.lw, h.wpos, h.vals, by have := h.llog; show S.log.length ≤ K + 1; omega, h.cok.put x0 (by omega) (by omega) (by constructor <;> (intro _; omega)), fun j p hp => ?_, fun j k p q s hp hq hjk hs => ?_⟩
  · rcases get_snoc hp with ⟨e1, e2⟩ | ⟨e1, e2⟩
    · subst e2
      exact ⟨t0, t1, hi, v0, v1, by omega, fun _ => ⟨x, put_self hx _⟩⟩
    · have hp2 := h.ops j p e2
      cases p with
      | wa => exact hp2
      | en t' i' v' k' =>
        obtain ⟨a1, a2, a3, a4, a5, a6, a7⟩ := hp2
        refine ⟨a1, a2, a3, a4, a5, a6, fun hl => ?_⟩
        obtain ⟨z, hz⟩ := a7 hl
        refine ⟨z, ?_⟩
        show (S.c.set i (x, 1))[i']? = _
        rw [List.getElem?_set, if_neg (fun e => live j _ e2 (by rw [e]; exact if_pos hl))]
        exact hz
  · rcases get_snoc hp with ⟨e1, e2⟩ | ⟨e1, e2⟩ <;> rcases get_snoc hq with ⟨e3, e4⟩ | ⟨e3, e4⟩
    · exact absurd (e1.trans e3.symm) hjk
    · subst e2
      have : i = s := by simpa [EOp.slot] using hs
      subst this
      exact live k q e4
    · subst e4
      intro e
      have : i = s := by simpa [EOp.slot] using e
      subst this
      exact live j p e2 hs
    · exact h.solo j k p q s e2 e4 hjk hs
theorem ESt.ok.left (h : S.ok b n K) {t x y : Int} {i : Nat} (hx : S.c[i]? = some (x, 2)) : (S.left b t i x y).ok b n (K + 1) := by
  obtain ⟨x0, x1, -, x3⟩ := h.cok i _ hx
  simp only at x0 x1 x3
  have hodd := x3.1 trivial
  refine ⟨by simp [ESt.left, h.lc], by simp only [ESt.left, List.length_set]; exact h.lw, pos_set h.wpos (by omega), vals_set h.vals (.inl fun j hj => by omega), by have := h.llog; simp [ESt.left]; omega, h.cok.put (by omega) (by omega) (by omega) (by constructor <;> (intro _; omega)), fun j p hp => ?_, h.solo⟩
  have hp2 := h.ops j p hp
  cases p with
  | wa => exact hp2
  | en t' i' v' k' =>
    obtain ⟨a1, a2, a3, a4, a5, a6, a7⟩ := hp2
    refine ⟨a1, a2, a3, a4, a5, a6, fun hl => ?_⟩
    obtain ⟨z, hz⟩ := a7 hl
    refine ⟨z, ?_⟩
    show (S.c.set i (x + 1, 0))[i']? = _
    rw [List.getElem?_set, if_neg (fun e => by subst e; rw [hx] at hz; cases hz)]
    exact hz
theorem ESt.ok.waits (h : S.ok b n K) (hn : 0 < n) {t : Int} {set : Nat} (t0 : 0 ≤ t) (t1 : t < 64) (hs : set < 18446744073709551616) : (S.waits t set).ok b n (K + 1) := by
  refine ⟨h.lc, h.lw, h.wpos, h.vals, by have := h.llog; show S.log.length ≤ K + 1; omega, h.cok.mono (by omega), fun j p hp => ?_, fun j k p q s hp hq hjk hs => ?_⟩
  · rcases get_snoc hp with ⟨e1, e2⟩ | ⟨e1, e2⟩
    · subst e2; exact ⟨t0, t1, hs, by simp, fun _ => hn⟩
    · exact h.ops j p e2
  · rcases get_snoc hp with ⟨e1, e2⟩ | ⟨e1, e2⟩ <;> rcases get_snoc hq with ⟨e3, e4⟩ | ⟨e3, e4⟩
    · exact absurd (e1.trans e3.symm) hjk
    · subst e2; simp [EOp.slot] at hs
    · subst e4; intro e; simp [EOp.slot] at e
    · exact h.solo j k p q s e2 e4 hjk hs
end
end Go.Lf

/-! EachSteps: the program's side. -/
set_option linter.unusedVariables false
set_option linter.unusedSimpArgs false
namespace Go.Proofs.YtldjlcdccnnogaaGreat
open Go.RowKit Go.Lf
def esl (c : List (Int × Nat)) : List (Int × Bool) := c.map fun p => (p.1, p.2 == 1)
theorem esl_at {c : List (Int × Nat)} {i : Nat} {p : Int × Nat} (h : c[i]? = some p) : (esl c)[i]? = some (p.1, p.2 == 1) := by simp [esl, h]
theorem esl_set (c : List (Int × Nat)) (i : Nat) (p : Int × Nat) : esl (c.set i p) = (esl c).set i (p.1, p.2 == 1) := by simp [esl, List.map_set]
def EPOp (w : World) (g b : Nat) : EOp → Prop
  | .en t i v k => EEntAt w b g t i v k
  | .wa t set s => EWaitAt w b g t set s
theorem EPOp.keep {w w' : World} {g b : Nat} {S : Nat → Prop} {o : EOp} (h : EPOp w g b o) (hk : Keep S w w') (hn : ¬ S b) : EPOp w' g b o := by
  cases o with
  | en => exact hk.at h hn
  | wa => exact hk.at h hn
theorem EPOp.ne {w : World} {g b : Nat} {o : EOp} (h : EPOp w g b o) {k : Nat} {cs : Array Value} {ty : TypeId} (hk : w.heap[k]? = some (.cells cs ty (0, 0))) (h1 : ty ≠ 280) (h2 : ty ≠ 283) : b ≠ k := by
  cases o with
  | en => exact type_ne h hk (fun e => h1 e.symm)
  | wa => exact type_ne h hk (fun e => h2 e.symm)
theorem EPOp.lt {w : World} {g b : Nat} {o : EOp} (h : EPOp w g b o) : b < w.heap.size := by
  cases o with
  | en => exact lt_of_block h
  | wa => exact lt_of_block h
/-- The engine, its memory and its operations, at the blocks A. -/
structure EPAt (g sb cb mb : Nat) (base : Int) (w : World) (A : Nat → Prop) (S : ESt) (bl : List Nat) (F : Nat → Prop) : Prop where
  sys : ESys w g sb cb mb F base (esl S.c) S.ws S.log
  len : bl.length = S.ops.length
  objs : ∀ (i b : Nat) (o : EOp), bl[i]? = some b → S.ops[i]? = some o → EPOp w g b o ∧ ¬ F b
  apart : ∀ i j b : Nat, bl[i]? = some b → bl[j]? = some b → i = j
  foot : ∀ k, A k ↔ F k ∨ k = g ∨ k = sb ∨ k = cb ∨ k ∈ bl
section
variable {g sb cb mb : Nat} {base : Int} {w w' : World} {A F F' : Nat → Prop} {S S' : ESt} {bl bl' : List Nat}
theorem EPAt.at (h : EPAt g sb cb mb base w A S bl F) {b : Nat} (hb : b ∈ bl) : ∃ (i : Nat) (o : EOp), bl[i]? = some b ∧ S.ops[i]? = some o ∧ EPOp w g b o ∧ ¬ F b := by
  obtain ⟨i, hi⟩ := List.getElem?_of_mem hb
  obtain ⟨o, ho⟩ : ∃ o, S.ops[i]? = some o := ⟨_, List.getElem?_eq_getElem (by have := (List.getElem?_eq_some_iff.1 hi).1; have := h.len; omega)⟩
  exact ⟨i, o, hi, ho, h.objs i b o hi ho⟩
theorem EPAt.lt (h : EPAt g sb cb mb base w A S bl F) (k : Nat) (hA : A k) : k < w.heap.size := by
  rcases (h.foot k).1 hA with e | e | e | e | e
  · exact h.sys.mem.lt k e
  · subst e; exact lt_of_block h.sys.eng.head
  · subst e; exact lt_of_block h.sys.eng.slots
  · subst e; exact lt_of_block h.sys.eng.cap
  · obtain ⟨i, o, -, -, ho, -⟩ := h.at e; exact ho.lt
theorem EPAt.keep (h : EPAt g sb cb mb base w A S bl F) {T : Nat → Prop} (hk : Keep T w w') (hn : ∀ k, A k → ¬ T k) : EPAt g sb cb mb base w' A S bl F :=
  ⟨h.sys.keep hk (fun k hF => hn k ((h.foot k).2 (.inl hF))) (hn g ((h.foot g).2 (.inr (.inl rfl)))) (hn sb ((h.foot sb).2 (.inr (.inr (.inl rfl))))) (hn cb ((h.foot cb).2 (.inr (.inr (.inr (.inl rfl)))))), h.len,
   fun i b o hb ho => ⟨(h.objs i b o hb ho).1.keep hk (hn b ((h.foot b).2 (.inr (.inr (.inr (.inr (List.mem_of_getElem? hb))))))), (h.objs i b o hb ho).2⟩, h.apart, h.foot⟩
def ELies (g sb cb mb : Nat) (base : Int) : Lies (ESt × List Nat) where
  lie w A x := ∃ F, EPAt g sb cb mb base w A x.1 x.2 F
  keep := fun ⟨F, h⟩ hk hn => ⟨F, h.keep hk hn⟩
  lt := fun ⟨_, h⟩ k hA => h.lt k hA
/-- The engine has turned, and at most operation t. -/
theorem EPAt.to (h : EPAt g sb cb mb base w A S bl F) (t : Nat) (hs : ESys w' g sb cb mb F' base (esl S'.c) S'.ws S'.log) (hk : Keep (fun k => F k ∨ k = sb ∨ bl[t]? = some k) w w') (hf : Foot w F F') (hl : bl'.length = S'.ops.length)
    (hnew : ∀ (i b : Nat) (o : EOp), bl'[i]? = some b → S'.ops[i]? = some o → (i ≠ t ∧ bl[i]? = some b ∧ S.ops[i]? = some o) ∨ (EPOp w' g b o ∧ ¬ F' b)) (hbl : ∀ b ∈ bl', b ∈ bl ∨ w.heap.size ≤ b) (hap : ∀ i j b : Nat, bl'[i]? = some b → bl'[j]? = some b → i = j) :
    (ELies g sb cb mb base).To w A (S', bl') w' := by
  refine ⟨fun k => F' k ∨ k = g ∨ k = sb ∨ k = cb ∨ k ∈ bl', ⟨F', hs, hl, fun i b o hb ho => ?_, hap, fun _ => Iff.rfl⟩, hk.mono (fun k _ hk => (h.foot k).2 ?_), fun k hk => ?_⟩
  · rcases hnew i b o hb ho with ⟨e1, e2, e3⟩ | e
    · obtain ⟨ho2, hF⟩ := h.objs i b o e2 e3
      have hlt := ho2.lt
      refine ⟨ho2.keep hk ?_, fun e => (hf b e).elim hF (fun e => by omega)⟩
      rintro (e | e | e)
      · exact hF e
      · exact ho2.ne h.sys.eng.slots (by decide) (by decide) e
      · exact e1 (h.apart i t b e2 e)
    · exact e
  · rcases hk with e | e | e
    · exact .inl e
    · exact .inr (.inr (.inl e))
    · exact .inr (.inr (.inr (.inr (List.mem_of_getElem? e))))
  · rcases hk with e | e | e | e | e
    · exact (hf k e).elim (fun e => .inl ((h.foot k).2 (.inl e))) .inr
    · exact .inl ((h.foot k).2 (.inr (.inl e)))
    · exact .inl ((h.foot k).2 (.inr (.inr (.inl e))))
    · exact .inl ((h.foot k).2 (.inr (.inr (.inr (.inl e)))))
    · exact (hbl k e).elim (fun e => .inl ((h.foot k).2 (.inr (.inr (.inr (.inr e)))))) .inr
theorem EPAt.one (h : EPAt g sb cb mb base w A S bl F) {t b : Nat} {o' : EOp} {c' : List (Int × Nat)} {ws' : List Int} {log' : List Acc} (hb : bl[t]? = some b) (hs : ESys w' g sb cb mb F' base (esl c') ws' log') (ho : EPOp w' g b o') (hk : Keep (fun k => F k ∨ k = sb ∨ k = b) w w') (hf : Foot w F F') (hn : ¬ F' b) :
    (ELies g sb cb mb base).To w A (⟨c', ws', log', S.ops.set t o'⟩, bl) w' := by
  refine h.to t hs (hk.mono fun k _ e => ?_) hf (by simpa using h.len) (fun i b' p hb' hp => ?_) (fun b hb => .inl hb) h.apart
  · rcases e with e | e | e
    · exact .inl e
    · exact .inr (.inl e)
    · subst e; exact .inr (.inr hb)
  · rcases set_cases hp with ⟨i1, i2⟩ | ⟨i1, i2⟩
    · subst i1; subst i2
      rw [hb] at hb'; cases hb'
      exact .inr ⟨ho, hn⟩
    · exact .inl ⟨i1, hb', i2⟩
theorem EPAt.none (h : EPAt g sb cb mb base w A S bl F) {c' : List (Int × Nat)} {ws' : List Int} {log' : List Acc} (hs : ESys w' g sb cb mb F' base (esl c') ws' log') (hk : Keep (fun k => F k ∨ k = sb) w w') (hf : Foot w F F') :
    (ELies g sb cb mb base).To w A (⟨c', ws', log', S.ops⟩, bl) w' := by
  refine h.to bl.length hs (hk.mono fun k _ e => ?_) hf h.len (fun i b' p hb' hp => .inl ⟨?_, hb', hp⟩) (fun b hb => .inl hb) h.apart
  · rcases e with e | e
    · exact .inl e
    · exact .inr (.inl e)
  · have := (List.getElem?_eq_some_iff.1 hb').1; omega
theorem EPAt.new (h : EPAt g sb cb mb base w A S bl F) {o : EOp} {c' : List (Int × Nat)} (hs : ESys w' g sb cb mb F base (esl c') S.ws S.log) (ho : EPOp w' g w.heap.size o) (hk : Keep (fun k => k = sb) w w') :
    (ELies g sb cb mb base).To w A (⟨c', S.ws, S.log, S.ops ++ [o]⟩, bl ++ [w.heap.size]) w' := by
  have nF : ¬ F w.heap.size := fun e => by have := h.sys.mem.lt _ e; omega
  have old : ∀ (i b : Nat), bl[i]? = some b → b < w.heap.size := fun i b hb => h.lt b ((h.foot b).2 (.inr (.inr (.inr (.inr (List.mem_of_getElem? hb))))))
  refine h.to bl.length hs (hk.mono fun k _ e => .inr (.inl e)) (fun k hk => .inl hk) (by simp [h.len]) (fun i b' p hb' hp => ?_) (fun b hb => ?_) (fun i j b hi hj => ?_)
  · rcases get_snoc hb' with ⟨e1, e2⟩ | ⟨e1, e2⟩ <;> rcases get_snoc hp with ⟨e3, e4⟩ | ⟨e3, e4⟩
    · subst e2; subst e4; exact .inr ⟨ho, nF⟩
    · exact absurd (e1.trans h.len) e3
    · exact absurd (e3.trans h.len.symm) e1
    · exact .inl ⟨e1, e2, e4⟩
  · rcases List.mem_append.1 hb with e | e
    · exact .inl e
    · simp only [List.mem_singleton] at e; exact .inr (by omega)
  · rcases get_snoc hi with ⟨e1, e2⟩ | ⟨e1, e2⟩ <;> rcases get_snoc hj with ⟨e3, e4⟩ | ⟨e3, e4⟩
    · exact e1.trans e3.symm
    · have := old j b e4; omega
    · have := old i b e2; omega
    · exact h.apart i j b e2 e4
theorem EPAt.same (h : EPAt g sb cb mb base w A S bl F) (hk : Keep Nil w w') : (ELies g sb cb mb base).To w A (S, bl) w' :=
  ⟨A, ⟨F, h.keep hk (fun _ _ h => h)⟩, hk.mono (fun _ _ h => h.elim), fun _ h => .inl h⟩

/-- What a step is called. -/
def EOp.pstep : EOp → FuncId
  | .en _ _ _ _ => 196
  | .wa _ _ _ => 201
def EOp.pnext : EOp → FuncId
  | .en _ _ _ _ => 195
  | .wa _ _ _ => 200
def EOp.pc : EOp → Int
  | .en _ _ _ k => epc k
  | .wa _ _ s => ewpc s.st
theorem epnext (h : EPAt g sb cb mb base w A S bl F) {t b : Nat} {o : EOp} {n : Nat} {c : List (Int × Nat)} (hb : bl[t]? = some b) (ho : S.ops[t]? = some o) (hok : o.ok n c) :
    Calls Tryz.prog (EOp.pnext o) #[.pointer (some ⟨b, 0, none⟩)] w fun e w' => e = .returned (.int .u8 (EOp.pc o)) ∧ Keep Nil w w' := by
  have ho2 := (h.objs t b o hb ho).1
  cases o with
  | en t i v k => exact enext_any ho2 hok.2.2.2.2.2.1
  | wa t set s => exact ewnext_any ho2 hok.2.2.2.1
theorem epstep {b0 n K : Nat} (h : EPAt g sb cb mb (b0 : Int) w A S bl F) (hok : S.ok b0 n K) (hb0 : b0 ≤ 20) (hn : n ≤ 9) (hK : K ≤ 1000) {t b : Nat} {o : EOp} (hb : bl[t]? = some b) (ho : S.ops[t]? = some o) {pc : Int} {d : Bool} (hst : EStep b0 n S t S' pc d) :
    Calls Tryz.prog (EOp.pstep o) #[.pointer (some ⟨b, 0, none⟩)] w fun e w' => e = .returned (.tuple #[.int .u8 pc, .bool d]) ∧ (ELies g sb cb mb (b0 : Int)).To w A (S', bl) w' := by
  have lc := hok.lc
  have ll := hok.llog
  have le : (esl S.c).length = n := by simp [esl, lc]
  have hoo := hok.ops t o ho
  obtain ⟨hp, nF⟩ := h.objs t b o hb ho
  cases hst with
  | @mark th i v y h1 hy =>
    rw [ho] at h1; cases h1
    obtain ⟨t0, t1, hi, v0, v1, -, -⟩ := hoo
    refine (estep_mark h.sys hp nF y t0 t1 v0 v1 (by omega) (by omega) (by omega) hy (by omega)).mono ?_
    rintro e w' ⟨rfl, F', q1, q2, q3, q4, q5⟩
    exact ⟨rfl, h.one hb q1 q2 q3 q4 q5⟩
  | @seq th i v x y h1 hx hy =>
    rw [ho] at h1; cases h1
    obtain ⟨t0, t1, hi, v0, v1, -, -⟩ := hoo
    obtain ⟨x0, x1, -, -⟩ := hok.cok i _ hx
    simp only at x0 x1
    refine (estep_seq h.sys hp nF x y _ t0 t1 (esl_at hx) x0 (by omega) (by omega) (by omega) (by omega) hy (by omega)).mono ?_
    rintro e w' ⟨rfl, F', q1, q2, q3, q4, q5⟩
    exact ⟨rfl, h.one hb (by rw [esl_set]; exact q1) q2 q3 q4 q5⟩
  | @idle th i v h1 =>
    rw [ho] at h1; cases h1
    refine (estep_idle hp).mono ?_
    rintro e w' ⟨rfl, hk⟩
    exact ⟨rfl, h.same hk⟩
  | @wait th set s x h1 hs hx =>
    rw [ho] at h1; cases h1
    obtain ⟨t0, t1, hset, h3, hpn⟩ := hoo
    have hpn := hpn hs
    have x1 : s.st = 1 → x < 64 := fun e => by
      obtain ⟨u, hu, hx2⟩ := hok.vals s.pos hpn
      unfold EWS.addr at hx
      rw [if_pos e, show ((b0 : Int) + ((2 * s.pos + 1 : Nat) : Int)).toNat = b0 + 2 * s.pos + 1 by omega, hx2] at hx
      cases hx; omega
    have := ewait_step hset h.sys hp nF (by omega) hs x (hok.wpos x (List.mem_of_getElem? hx)) x1 t0 t1 (by omega) (by omega) hx (by omega)
    rw [le] at this
    refine this.mono ?_
    rintro e w' ⟨rfl, F', q1, q2, q3, q4, q5⟩
    exact ⟨rfl, h.one hb q1 q2 (q3.mono fun k _ e => e.elim .inl (fun e => .inr (.inr e))) q4 q5⟩
  | @over th set s h1 hs =>
    rw [ho] at h1; cases h1
    refine (ewait_idle hp hs).mono ?_
    rintro e w' ⟨rfl, rfl⟩
    exact ⟨rfl, h.same (Keep.refl _ _)⟩
end
end Go.Proofs.YtldjlcdccnnogaaGreat

/-! A rig over `each`: what its state is to what is seen from above (plain). -/
set_option linter.unusedVariables false
set_option linter.unusedSimpArgs false
namespace Go.Lf
theorem conc_hasv {s v : Int} (v0 : 0 ≤ v) : conc s v = hasv s v := by
  unfold conc hasv
  by_cases h : v < 64
  · rw [decide_eq_true (show 0 ≤ v ∧ v < 64 from ⟨v0, h⟩), decide_eq_true h]
  · rw [decide_eq_false (show ¬ (0 ≤ v ∧ v < 64) from fun e => h e.2), decide_eq_false h]
/-- A wait, by the numbers of the slots and what the threads do. -/
structure EWk (n : Nat) (q : Nat → Int) (T : Nat → TS) (M : Nat → Prop) (set : Int) (s : EWS) : Prop where
  seen : s.st = 1 ∨ s.st = 2 → s.seen % 2 = 1 ∧ s.seen ≤ q s.pos
  aw : s.st = 2 → q s.pos = s.seen → ∃ v, T s.pos = .inn v ∧ conc set v = true
  ah : ∀ j, j < n → M j → (∃ v, T j = .inn v ∧ conc set v = true) ∧ s.pos ≤ j ∧ (s.pos = j → s.st ≠ 0 → s.seen = q j)
section
variable {n k : Nat} {q q' : Nat → Int} {T T' : Nat → TS} {M M' : Nat → Prop} {set : Int} {s : EWS}
theorem EWk.other (h : EWk n q T M set s) (hk : ∀ j, j ≠ k → T' j = T j ∧ q' j = q j) (hq : (q' k = q k ∧ ∀ v, T k ≠ .inn v) ∨ q k < q' k) (hM : ∀ j, M' j → M j) (hMk : (∃ v, T k = .inn v) → ¬ M' k) : EWk n q' T' M' set s := by
  refine ⟨fun h0 => ?_, fun h2 he => ?_, fun j hj hm => ?_⟩
  · obtain ⟨a, b⟩ := h.seen h0
    by_cases e : s.pos = k
    · rw [e] at b ⊢
      exact ⟨a, by rcases hq with ⟨c, -⟩ | c <;> omega⟩
    · rw [(hk _ e).2]; exact ⟨a, b⟩
  · by_cases e : s.pos = k
    · rw [e] at he
      rcases hq with ⟨a, b⟩ | a
      · obtain ⟨v, hv, -⟩ := h.aw h2 (by rw [e]; omega)
        rw [e] at hv
        exact absurd hv (b v)
      · have := (h.seen (.inr h2)).2
        rw [e] at this; omega
    · rw [(hk _ e).1]
      exact h.aw h2 (by rw [← (hk _ e).2]; exact he)
  · have e : j ≠ k := by
      rintro rfl
      obtain ⟨⟨v, hv, -⟩, -⟩ := h.ah j hj (hM j hm)
      exact hMk ⟨v, hv⟩ hm
    rw [(hk j e).1, (hk j e).2]
    exact h.ah j hj (hM j hm)
theorem EWk.start (hM : ∀ j, M j → ∃ v, T j = .inn v ∧ conc set v = true) (h : s.pos = 0 ∧ s.st = 0) : EWk n q T M set s :=
  ⟨fun h0 => by omega, fun h2 => by omega, fun j _ hm => ⟨hM j hm, by omega, fun _ h0 => absurd h.2 h0⟩⟩
/-- The steps that a wait has left at most. -/
def EWS.left (n : Nat) (s : EWS) : Nat := 3 * (n - s.pos) - s.st
theorem EWk.step (h : EWk n q T M set s) (hp : s.pos < n) (h3 : s.st < 3) (odd : ∀ j, j < n → (q j % 2 = 1 ↔ ∃ v, T j = .inn v)) {y : Int} (hy0 : s.st ≠ 1 → y = q s.pos) (hy1 : s.st = 1 → ∀ v, T s.pos = .inn v → y = v) :
    EWk n q T M set (s.step n set y) ∧ ((s.step n set y).st = 3 → (s.step n set y).pos = n) ∧ ((s.step n set y).st ≠ 3 → (s.step n set y).st < 3 ∧ (s.step n set y).pos < n) ∧
      ((s.step n set y).left n + 1 ≤ s.left n ∨ ∃ v, T s.pos = .inn v ∧ conc set v = true) := by
  have nx : ∀ u : EWS, u.pos = s.pos → ¬ M s.pos → EWk n q T M set (u.next n) ∧ ((u.next n).st = 3 → (u.next n).pos = n) ∧ ((u.next n).st ≠ 3 → (u.next n).st < 3 ∧ (u.next n).pos < n) ∧
      ((u.next n).left n + 1 ≤ s.left n ∨ ∃ v, T s.pos = .inn v ∧ conc set v = true) := by
    intro u hu hm
    obtain ⟨a1, a2, a3⟩ := u.next_pos n
    refine ⟨⟨fun h0 => ?_, fun h2 => ?_, fun j hj hmj => ?_⟩, fun h => ?_, fun h => ?_, .inl ?_⟩
    · rcases a3 with ⟨a, b⟩ | ⟨a, b⟩ <;> omega
    · rcases a3 with ⟨a, b⟩ | ⟨a, b⟩ <;> omega
    · obtain ⟨c1, c2, c3⟩ := h.ah j hj hmj
      have : s.pos ≠ j := fun e => hm (e ▸ hmj)
      refine ⟨c1, by omega, fun e h0 => ?_⟩
      rcases a3 with ⟨a, b⟩ | ⟨a, b⟩
      · omega
      · exact absurd a h0
    · rcases a3 with ⟨a, b⟩ | ⟨a, b⟩ <;> omega
    · rcases a3 with ⟨a, b⟩ | ⟨a, b⟩ <;> omega
    · unfold EWS.left
      rcases a3 with ⟨a, b⟩ | ⟨a, b⟩ <;> omega
  rcases s.step_cases set y n with ⟨a, b, c⟩ | ⟨a, b, c⟩ | ⟨a, b, c⟩ | ⟨a, b, c⟩ | ⟨a, b, c⟩ | ⟨a, b, c⟩
  · have hy := hy0 (by omega)
    rw [c]
    refine ⟨⟨fun _ => ⟨b, by show y ≤ q s.pos; omega⟩, fun h2 => by simp at h2, fun j hj hm => ?_⟩, fun h => by simp at h, fun _ => ⟨by simp, hp⟩, .inl (by simp only [EWS.left]; omega)⟩
    obtain ⟨c1, c2, -⟩ := h.ah j hj hm
    exact ⟨c1, c2, fun e _ => by show y = q j; rw [hy]; exact congrArg q e⟩
  · have hy := hy0 (by omega)
    rw [c]
    refine nx _ rfl (fun hm => ?_)
    obtain ⟨⟨v, hv, -⟩, -⟩ := h.ah _ hp hm
    have := (odd _ hp).2 ⟨v, hv⟩
    omega
  · have hs := h.seen (.inl a)
    rw [c]
    refine ⟨⟨fun _ => hs, fun _ he => ?_, fun j hj hm => ?_⟩, fun h => by simp at h, fun _ => ⟨by simp, hp⟩, .inl (by simp only [EWS.left]; omega)⟩
    · simp only at he
      obtain ⟨v, hv⟩ := (odd _ hp).1 (by rw [he]; exact hs.1)
      exact ⟨v, hv, by rw [← hy1 a v hv]; exact b⟩
    · obtain ⟨c1, c2, c3⟩ := h.ah j hj hm
      exact ⟨c1, c2, fun e _ => c3 e (by omega)⟩
  · rw [c]
    refine nx _ rfl (fun hm => ?_)
    obtain ⟨⟨v, hv, hc⟩, -⟩ := h.ah _ hp hm
    rw [hy1 a v hv, hc] at b
    cases b
  · have hy := hy0 (by omega)
    rw [c]
    exact ⟨h, fun h => by omega, fun _ => ⟨h3, hp⟩, .inr (h.aw (by omega) (by omega))⟩
  · have hy := hy0 (by omega)
    rw [c]
    refine nx _ rfl (fun hm => ?_)
    obtain ⟨-, -, c3⟩ := h.ah _ hp hm
    have := c3 rfl (by omega)
    omega
/-- At its end a wait has nothing left to wait for. -/
theorem EWk.ended (h : EWk n q T M set s) (hp : s.pos = n) (j : Nat) (hj : j < n) : ¬ M j := fun hm => by
  have := (h.ah j hj hm).2.1
  omega
end
def EOp.thr : EOp → Int
  | .en t _ _ _ => t
  | .wa t _ _ => t
def ESt.qn (S : ESt) (k : Nat) : Int := ((S.c[k]?).getD (0, 0)).1
theorem qn_of {S : ESt} {k : Nat} {p : Int × Nat} (h : S.c[k]? = some p) : S.qn k = p.1 := by rw [ESt.qn, h]; rfl
/-- What thread k does, in the state. -/
def ETh (n : Nat) (S : ESt) (o : Nat) (x : RX) (k : Nat) : Prop := match x.T k with
  | .idle => S.c[k]? = some (S.qn k, 0)
  | .en v => 0 ≤ v ∧ v < 64 ∧ S.c[k]? = some (S.qn k, 1) ∧ ∃ j, j < 2 ∧ S.ops[o]? = some (.en k k v j) ∧ (j = 1 → S.ws[2 * k + 1]? = some v)
  | .inn v => 0 ≤ v ∧ v < 64 ∧ S.c[k]? = some (S.qn k, 2) ∧ S.ws[2 * k + 1]? = some v
  | .wa set bg => S.c[k]? = some (S.qn k, 0) ∧ 0 < set ∧ set < 18446744073709551616 ∧ ∃ s, S.ops[o]? = some (.wa k set.toNat s) ∧ s.st < 3 ∧ s.pos < n ∧ (bg = false → s.pos = 0 ∧ s.st = 0) ∧ x.R k = s.left n ∧ EWk n S.qn x.T (if bg = true then x.M k else fun _ => False) set s
structure EX (n : Nat) (S : ESt) (oi : Nat → Nat) (x : RX) : Prop where
  ok : S.ok 0 n x.K
  th : ∀ k, k < n → ETh n S (oi k) x k
  seq : ∀ k, k < n → S.ws[2 * k]? = some (S.qn k)
section
variable {n k j o : Nat} {S S' : ESt} {oi : Nat → Nat} {x x' : RX}
theorem ETh.other (h : ETh n S o x j) (hj : j ≠ k) (hc : ∀ i, i ≠ k → S'.c[i]? = S.c[i]?) (hw : ∀ i, i ≠ k → S'.ws[2 * i + 1]? = S.ws[2 * i + 1]?) (ho : ∀ a, S.ops[o]? = some a → a.thr = j → S'.ops[o]? = some a) (hT : ∀ i, i ≠ k → x'.T i = x.T i) (hR : x'.R j = x.R j) (hM : ∀ i, x'.M j i → x.M j i)
    (hq : (S'.qn k = S.qn k ∧ ∀ v, x.T k ≠ .inn v) ∨ S.qn k < S'.qn k) (hMk : (∃ v, x.T k = .inn v) → ¬ x'.M j k) : ETh n S' o x' j := by
  have hqn : ∀ i, i ≠ k → S'.qn i = S.qn i := fun i hi => by unfold ESt.qn; rw [hc i hi]
  unfold ETh at h ⊢
  rw [hT j hj]
  split at h
  · rw [hc j hj, hqn j hj]; exact h
  · obtain ⟨a, b, c, i, d, e, f⟩ := h
    exact ⟨a, b, by rw [hc j hj, hqn j hj]; exact c, i, d, ho _ e rfl, fun h => by rw [hw j hj]; exact f h⟩
  · rw [hc j hj, hqn j hj, hw j hj]; exact h
  · rename_i set bg hh
    obtain ⟨a, b, c, s, d, e, f, g, r, m⟩ := h
    refine ⟨by rw [hc j hj, hqn j hj]; exact a, b, c, s, ho _ d rfl, e, f, g, by rw [hR]; exact r, m.other (k := k) (fun i hi => ⟨hT i hi, hqn i hi⟩) hq (fun i hi => ?_) (fun hv => ?_)⟩
    · cases bg with
      | true => exact hM i hi
      | false => exact hi
    · cases bg with
      | true => exact hMk hv
      | false => exact fun h => h
theorem EX.odd (h : EX n S oi x) (j : Nat) (hj : j < n) : S.qn j % 2 = 1 ↔ ∃ v, x.T j = .inn v := by
  have ht := h.th j hj
  unfold ETh at ht
  have key : ∀ a : Nat, S.c[j]? = some (S.qn j, a) → (a = 2 ↔ S.qn j % 2 = 1) := fun a ha => (h.ok.cok j _ ha).2.2.2
  split at ht
  · rename_i e
    have := key 0 ht
    exact ⟨fun h => by omega, fun ⟨v, hv⟩ => by rw [e] at hv; cases hv⟩
  · rename_i e
    have := key 1 ht.2.2.1
    exact ⟨fun h => by omega, fun ⟨v, hv⟩ => by rw [e] at hv; cases hv⟩
  · rename_i v e
    have := key 2 ht.2.2.1
    exact ⟨fun _ => ⟨v, e⟩, fun _ => this.1 rfl⟩
  · rename_i e
    have := key 0 ht.1
    exact ⟨fun h => by omega, fun ⟨v, hv⟩ => by rw [e] at hv; cases hv⟩
/-- What a wait has to wait for is open. -/
theorem ETh.open (h : ETh n S o x j) {set : Int} {i : Nat} (hi : i < n) (hw : x.T j = .wa set true) (hm : x.M j i) : ∃ v, x.T i = .inn v := by
  unfold ETh at h
  rw [hw] at h
  obtain ⟨-, -, -, s, -, -, -, -, -, m⟩ := h
  obtain ⟨⟨v, hv, -⟩, -⟩ := m.ah i hi hm
  exact ⟨v, hv⟩
theorem qn_set_self {l : List Int} {g : List Acc} {ops : List EOp} {p q : Int × Nat} (h : S.c[k]? = some p) : ESt.qn ⟨S.c.set k q, l, g, ops⟩ k = q.1 := qn_of (put_self h q)
theorem qn_set_ne {l : List Int} {g : List Acc} {ops : List EOp} {q : Int × Nat} (hj : j ≠ k) : ESt.qn ⟨S.c.set k q, l, g, ops⟩ j = S.qn j := by
  unfold ESt.qn
  rw [List.getElem?_set, if_neg (fun e => hj e.symm)]
theorem c_ne {q : Int × Nat} : ∀ i, i ≠ k → (S.c.set k q)[i]? = S.c[i]? := fun i hi => by rw [List.getElem?_set, if_neg (fun e => hi e.symm)]
theorem ops_ho {a b : Nat} {o o' : EOp} (hk0 : S.ops[a]? = some o) (ht : o.thr = (k : Int)) (hj : j ≠ k) : ∀ p, S.ops[b]? = some p → p.thr = j → (S.ops.set a o')[b]? = some p := by
  intro p hp hq
  rw [List.getElem?_set, if_neg (fun e => ?_)]
  · exact hp
  · subst e
    rw [hk0] at hp
    cases hp
    omega
theorem ops_app {b : Nat} {o' p : EOp} (hp : S.ops[b]? = some p) : (S.ops ++ [o'])[b]? = some p := by
  rw [List.getElem?_append_left (List.getElem?_eq_some_iff.1 hp).1]; exact hp
theorem EX.enter (h : EX n S oi x) (hn : n ≤ 6) (hk : k < n) {v : Int} (hT : x.T k = .idle) (v0 : 0 ≤ v) (v1 : v < 64) (b : Nat) : EX n (S.begun k k v (S.qn k)) (upd oi k S.ops.length) (x.enter k v b) := by
  have hc := h.th k hk
  unfold ETh at hc
  rw [hT] at hc
  simp only at hc
  have qk : (S.begun k k v (S.qn k)).qn k = S.qn k := qn_set_self hc
  have qj : ∀ j, j ≠ k → (S.begun k k v (S.qn k)).qn j = S.qn j := fun j hj => qn_set_ne hj
  refine ⟨h.ok.begun (by omega) (by omega) v0 v1 hc, fun j hj => ?_, fun j hj => ?_⟩
  · by_cases e : j = k
    · subst e
      unfold ETh
      simp only [RX.enter, upd_self]
      exact ⟨v0, v1, by rw [qk]; exact put_self hc _, 0, by omega, by simp [ESt.begun], fun h => by simp at h⟩
    · rw [upd_ne _ _ e]
      exact (h.th j hj).other e c_ne (fun _ _ => rfl) (fun a ha _ => ops_app ha) (fun i hi => upd_ne _ _ hi) rfl (fun i hi => hi) (.inl ⟨qk, fun v hv => by rw [hT] at hv; cases hv⟩) (fun ⟨v, hv⟩ => by rw [hT] at hv; cases hv)
  · by_cases e : j = k
    · subst e; rw [qk]; exact h.seq j hj
    · rw [qj j e]; exact h.seq j hj
theorem EX.estep (h : EX n S oi x) (hn : n ≤ 6) (hk : k < n) {v : Int} (hT : x.T k = .en v) {pc : Int} {d : Bool} (hst : EStep 0 n S (oi k) S' pc d) (hok : S'.ok 0 n (x.K + 1)) : EX n S' oi (x.estep k v d) ∧ pc ≠ 0 ∧ pc ≠ 1 := by
  have hc := h.th k hk
  unfold ETh at hc
  rw [hT] at hc
  simp only at hc
  obtain ⟨v0, v1, hc, i, hi, ho, hw⟩ := hc
  have nT : ∀ u, x.T k ≠ .inn u := fun u hu => by rw [hT] at hu; cases hu
  cases hst with
  | mark h1 hy =>
    rw [ho] at h1
    simp only [Option.some.injEq, EOp.en.injEq] at h1
    obtain ⟨rfl, h2, rfl, rfl⟩ := h1
    have h2 : k = _ := h2
    subst h2
    have ea : (((0 : Nat) : Int) + 2 * (k : Int) + 1).toNat = 2 * k + 1 := by omega
    rw [ea] at hy
    simp only [ea] at hok ⊢
    refine ⟨⟨hok, fun j hj => ?_, fun j hj => ?_⟩, by decide, by decide⟩
    · by_cases e : j = k
      · subst e
        unfold ETh
        simp only [RX.estep, upd_self]
        exact ⟨v0, v1, hc, 1, by omega, put_self ho _, fun _ => put_self hy _⟩
      · exact (h.th j hj).other e (fun _ _ => rfl) (fun i hi => by show (S.ws.set _ _)[_]? = _; rw [List.getElem?_set, if_neg (by omega)]) (ops_ho ho rfl e) (fun i hi => upd_ne _ _ hi) rfl (fun i hi => hi) (.inl ⟨rfl, nT⟩) (fun ⟨u, hu⟩ => absurd hu (nT u))
    · show (S.ws.set _ _)[_]? = _
      rw [List.getElem?_set, if_neg (by omega)]
      exact h.seq j hj
  | seq h1 hx hy =>
    rw [ho] at h1
    simp only [Option.some.injEq, EOp.en.injEq] at h1
    obtain ⟨rfl, h2, rfl, rfl⟩ := h1
    have h2 : k = _ := h2
    subst h2
    have ea : (((0 : Nat) : Int) + 2 * (k : Int)).toNat = 2 * k := by omega
    rw [ea] at hy
    rw [hc] at hx
    simp only [Option.some.injEq, Prod.mk.injEq, and_true] at hx
    subst hx
    simp only [ea] at hok ⊢
    have qk : ∀ l g o, ESt.qn ⟨S.c.set k (S.qn k + 1, 2), l, g, o⟩ k = S.qn k + 1 := fun l g o => qn_set_self hc
    refine ⟨⟨hok, fun j hj => ?_, fun j hj => ?_⟩, by decide, by decide⟩
    · by_cases e : j = k
      · subst e
        unfold ETh
        simp only [RX.estep, upd_self, if_true]
        refine ⟨v0, v1, ?_, ?_⟩
        · rw [qk]; exact put_self hc _
        · rw [List.getElem?_set, if_neg (by omega)]; exact hw rfl
      · refine (h.th j hj).other e c_ne (fun i hi => by show (S.ws.set _ _)[_]? = _; rw [List.getElem?_set, if_neg (by omega)]) (ops_ho ho rfl e) (fun i hi => upd_ne _ _ hi) rfl (fun i hi => hi) (.inr ?_) (fun ⟨u, hu⟩ => absurd hu (nT u))
        rw [qk]; omega
    · by_cases e : j = k
      · subst e; rw [qk]; exact put_self hy _
      · rw [qn_set_ne e]
        show (S.ws.set _ _)[_]? = _
        rw [List.getElem?_set, if_neg (by omega)]
        exact h.seq j hj
  | idle h1 =>
    rw [ho] at h1
    simp only [Option.some.injEq, EOp.en.injEq] at h1
    omega
  | wait h1 => rw [ho] at h1; simp at h1
  | over h1 => rw [ho] at h1; simp at h1
theorem EX.exit (h : EX n S oi x) (hn : n ≤ 6) (hk : k < n) {v : Int} (hT : x.T k = .inn v) : ∃ y, S.c[k]? = some (S.qn k, 2) ∧ S.ws[2 * k]? = some y ∧ EX n (S.left 0 k k (S.qn k) y) oi (x.exit k) := by
  have hc := h.th k hk
  unfold ETh at hc
  rw [hT] at hc
  simp only at hc
  obtain ⟨v0, v1, hc, hw⟩ := hc
  have ea : (((0 : Nat) : Int) + 2 * (k : Int)).toNat = 2 * k := by omega
  have hy := h.seq k hk
  have qk : ∀ l g o, ESt.qn ⟨S.c.set k (S.qn k + 1, 0), l, g, o⟩ k = S.qn k + 1 := fun l g o => qn_set_self hc
  refine ⟨_, hc, hy, h.ok.left hc, fun j hj => ?_, fun j hj => ?_⟩
  · by_cases e : j = k
    · subst e
      unfold ETh
      simp only [RX.exit, upd_self, ESt.left]
      rw [qk]; exact put_self hc _
    · refine (h.th j hj).other e c_ne (fun i hi => by show (S.ws.set _ _)[_]? = _; rw [List.getElem?_set, if_neg (by omega)]) (fun a ha _ => ha) (fun i hi => upd_ne _ _ hi) rfl (fun i hi => hi.1) (.inr ?_) (fun _ hm => hm.2 rfl)
      unfold ESt.left; rw [qk]; omega
  · by_cases e : j = k
    · subst e; unfold ESt.left; rw [qk]; simp only [ea]; exact put_self hy _
    · unfold ESt.left
      rw [qn_set_ne e]
      show (S.ws.set _ _)[_]? = _
      rw [List.getElem?_set, if_neg (by omega)]
      exact h.seq j hj
theorem EX.wait (h : EX n S oi x) (hn : n ≤ 6) (hk : k < n) {set : Int} (hT : x.T k = .idle) (s0 : 0 < set) (s1 : set < 18446744073709551616) (b : Nat) : EX n (S.waits k set.toNat) (upd oi k S.ops.length) (x.wait k set (3 * n) b) := by
  have hc := h.th k hk
  unfold ETh at hc
  rw [hT] at hc
  simp only at hc
  refine ⟨h.ok.waits (by omega) (by omega) (by omega) (by omega), fun j hj => ?_, h.seq⟩
  by_cases e : j = k
  · subst e
    unfold ETh
    simp only [RX.wait, upd_self]
    exact ⟨hc, s0, s1, ⟨0, 0, 0⟩, by simp [ESt.waits], by simp, by show 0 < n; omega, fun _ => ⟨rfl, rfl⟩, by simp [EWS.left], EWk.start (fun _ h => h.elim) ⟨rfl, rfl⟩⟩
  · rw [upd_ne _ _ e]
    exact (h.th j hj).other e (fun _ _ => rfl) (fun _ _ => rfl) (fun a ha _ => ops_app ha) (fun i hi => upd_ne _ _ hi) (upd_ne _ _ e) (fun i hi => hi) (.inl ⟨rfl, fun v hv => by rw [hT] at hv; cases hv⟩) (fun ⟨v, hv⟩ => by rw [hT] at hv; cases hv)
theorem EX.inn0 (h : EX n S oi x) (hj : j < n) {v : Int} (hT : x.T j = .inn v) : 0 ≤ v ∧ S.ws[2 * j + 1]? = some v := by
  have hc := h.th j hj
  unfold ETh at hc
  rw [hT] at hc
  exact ⟨hc.1, hc.2.2.2⟩
theorem EX.wstep (h : EX n S oi x) (hn : n ≤ 6) (hk : k < n) {set : Int} {bg : Bool} (hT : x.T k = .wa set bg) {pc : Int} {d : Bool} (hst : EStep 0 n S (oi k) S' pc d) (hok : S'.ok 0 n (x.K + 1)) :
    ∃ r, EX n S' oi (x.wstep k set bg d r) ∧ pc ≠ 0 ∧ pc ≠ 1 ∧ (d = true → ∀ j, j < n → ¬ x.must k set bg j) ∧ r ≤ 3 * n ∧ (r + 1 ≤ x.R k ∨ ∃ j v, j < n ∧ x.T j = .inn v ∧ hasv set v = true) := by
  have hc := h.th k hk
  unfold ETh at hc
  rw [hT] at hc
  simp only at hc
  obtain ⟨hc, s0, s1, s, ho, h3, hp, hbg, hR, hE⟩ := hc
  have nT : ∀ u, x.T k ≠ .inn u := fun u hu => by rw [hT] at hu; cases hu
  have hE2 : EWk n S.qn x.T (fun j => j < n ∧ x.must k set bg j) set s := by
    cases bg with
    | true => exact ⟨hE.seen, hE.aw, fun j hj hm => hE.ah j hj hm.2⟩
    | false => exact EWk.start (fun j ⟨hj, v, hv, hh⟩ => ⟨v, hv, by rw [conc_hasv (h.inn0 hj hv).1]; exact hh⟩) (hbg rfl)
  cases hst with
  | mark h1 => rw [ho] at h1; simp at h1
  | seq h1 => rw [ho] at h1; simp at h1
  | idle h1 => rw [ho] at h1; simp at h1
  | over h1 hs => rw [ho] at h1; simp only [Option.some.injEq, EOp.wa.injEq] at h1; obtain ⟨-, -, rfl⟩ := h1; omega
  | @wait th st s' y h1 hs hx =>
    rw [ho] at h1
    simp only [Option.some.injEq, EOp.wa.injEq] at h1
    obtain ⟨rfl, rfl, rfl⟩ := h1
    have es : ((set.toNat : Nat) : Int) = set := by omega
    have ea : (((0 : Nat) : Int) + (s.addr : Int)).toNat = s.addr := by omega
    rw [ea] at hx
    rw [es] at hok ⊢
    have y0 : s.st ≠ 1 → y = S.qn s.pos := fun h0 => by
      have e : s.addr = 2 * s.pos := by simp only [EWS.addr, if_neg h0, Nat.add_zero]
      rw [e, h.seq _ hp] at hx
      exact (Option.some.inj hx).symm
    have y1 : s.st = 1 → ∀ v, x.T s.pos = .inn v → y = v := fun h0 v hv => by
      have e : s.addr = 2 * s.pos + 1 := by unfold EWS.addr; rw [if_pos h0]
      rw [e, (h.inn0 hp hv).2] at hx
      exact (Option.some.inj hx).symm
    obtain ⟨q1, q2, q3, q4⟩ := hE2.step hp h3 h.odd y0 y1
    generalize hs' : s.step n set y = s' at *
    have hle : s'.left n ≤ 3 * n := by unfold EWS.left; omega
    refine ⟨s'.left n, ⟨hok, fun j hj => ?_, h.seq⟩, ?_, ?_, fun hd j hj hm => ?_, hle, ?_⟩
    · by_cases e : j = k
      · subst e
        unfold ETh
        simp only [RX.wstep, upd_self]
        by_cases hd : s'.st = 3
        · rw [show (s'.st == 3) = true by simp [hd]]
          simp only [if_true]
          exact hc
        · rw [show (s'.st == 3) = false by simp [hd]]
          simp only [Bool.false_eq_true, if_false, if_true]
          obtain ⟨a, b⟩ := q3 hd
          refine ⟨hc, s0, s1, s', put_self ho _, a, b, fun h => by simp at h, rfl, ?_⟩
          have q5 := q1.other (k := j) (T' := upd x.T j (.wa set true)) (q' := S.qn) (M' := fun i => i < n ∧ x.must j set bg i) (fun i hi => ⟨upd_ne _ _ hi, rfl⟩) (.inl ⟨rfl, nT⟩) (fun _ h => h) (fun ⟨u, hu⟩ => absurd hu (nT u))
          exact ⟨q5.seen, q5.aw, fun i hi hm => q5.ah i hi ⟨hi, hm⟩⟩
      · have hM : (x.wstep k set bg (s'.st == 3) (s'.left n)).M j = x.M j := upd_ne _ _ e
        exact (h.th j hj).other e (fun _ _ => rfl) (fun _ _ => rfl) (ops_ho ho rfl e) (fun i hi => upd_ne _ _ hi) (upd_ne _ _ e) (fun i hi => by rw [hM] at hi; exact hi) (.inl ⟨rfl, nT⟩) (fun ⟨u, hu⟩ => absurd hu (nT u))
    · split
      · decide
      · split
        · decide
        · split
          · decide
          · omega
    · split
      · decide
      · split
        · decide
        · split
          · decide
          · omega
    · exact q1.ended (q2 (by simpa using hd)) j hj ⟨hj, hm⟩
    · rcases q4 with q4 | ⟨v, hv, hh⟩
      · exact .inl (by rw [hR]; exact q4)
      · exact .inr ⟨s.pos, v, hp, hv, by rw [← conc_hasv (h.inn0 hp hv).1]; exact hh⟩
end
end Go.Lf
