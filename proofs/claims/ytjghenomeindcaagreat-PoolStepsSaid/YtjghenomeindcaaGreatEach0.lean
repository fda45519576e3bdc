
/- each: Words and New, beside the reference: contracts of what errs. -/
import Derived.Test.YtjghenomeindcaaGreatKit
import Derived.Test.YtjghenomeindcaaGreatBase
import Derived.Test.YtjghenomeindcaaGreatMem
namespace Go.Proofs.YtjghenomeindcaaGreat
open Go.RowKit Go.Lf
section
variable {w : World}
set_option maxHeartbeats 400000 in
theorem ewords_no (n : Int) (h : n < 1 ∨ 64 < n) : Calls Tryz.prog 148 #[.int .i64 n] w fun e w' => e = .returned (.tuple #[.int .i64 0, .int .i64 2]) ∧ w = w' := by
  by_cases h1 : n < 1
  · have d1 : decide (n < 1) = true := decide_eq_true h1
    clear h h1
    go_enter Tryz.func148, Tryz.ntmps148
    go_wp2
    go_ret2
    exact ⟨rfl, rfl⟩
  · have d1 : decide (n < 1) = false := decide_eq_false h1
    have d2 : decide (64 < n) = true := decide_eq_true (by omega)
    clear h h1
    go_enter Tryz.func148, Tryz.ntmps148
    go_wp2
    go_ret2
    exact ⟨rfl, rfl⟩
set_option maxHeartbeats 400000 in
theorem ewords_ok (n : Int) (h : 1 ≤ n ∧ n ≤ 64) : Calls Tryz.prog 148 #[.int .i64 n] w fun e w' => e = .returned (.tuple #[.int .i64 (2 * n), .int .i64 0]) ∧ w = w' := by
  have d1 : decide (n < 1) = false := decide_eq_false (by omega)
  have d2 : decide (64 < n) = false := decide_eq_false (by omega)
  obtain ⟨n0, n1⟩ := h
  go_enter Tryz.func148, Tryz.ntmps148
  go_wp2
  go_ret2
  exact ⟨rfl, rfl⟩
set_option maxHeartbeats 400000 in
theorem rewords_no (n : Int) (h : n < 1 ∨ 64 < n) : Calls Tryz.prog 179 #[.int .i64 n] w fun e w' => e = .returned (.tuple #[.int .i64 0, .int .i64 2]) ∧ w = w' := by
  by_cases h1 : n < 1
  · have d1 : decide (n < 1) = true := decide_eq_true h1
    clear h h1
    go_enter Tryz.func179, Tryz.ntmps179
    go_wp2
    go_ret2
    exact ⟨rfl, rfl⟩
  · have d1 : decide (n < 1) = false := decide_eq_false h1
    have d2 : decide (64 < n) = true := decide_eq_true (by omega)
    clear h h1
    go_enter Tryz.func179, Tryz.ntmps179
    go_wp2
    go_ret2
    exact ⟨rfl, rfl⟩
set_option maxHeartbeats 400000 in
theorem rewords_ok (n : Int) (h : 1 ≤ n ∧ n ≤ 64) : Calls Tryz.prog 179 #[.int .i64 n] w fun e w' => e = .returned (.tuple #[.int .i64 (2 * n), .int .i64 0]) ∧ w = w' := by
  have d1 : decide (n < 1) = false := decide_eq_false (by omega)
  have d2 : decide (64 < n) = false := decide_eq_false (by omega)
  obtain ⟨n0, n1⟩ := h
  go_enter Tryz.func179, Tryz.ntmps179
  go_wp2
  go_ret2
  exact ⟨rfl, rfl⟩

/-! New. -/
set_option maxHeartbeats 400000 in
theorem enew_nil (base n : Int) : Calls Tryz.prog 119 #[.pointer none, .int .i64 base, .int .i64 n] w fun e w' => e = .returned (.tuple #[.pointer none, .int .i64 1]) ∧ Keep Nil w w' := by
  go_enter Tryz.func119, Tryz.ntmps119
  go_wp2
  go_ret2
  exact ⟨rfl, (Keep.refl Nil w).alloc _⟩
variable {mb : Nat} {F : Nat → Prop} {ws : List Int} {log : List Acc}
set_option maxHeartbeats 1000000 in
theorem enew_err (h : MemAt w mb F ws log) (_hl : ws.length ≤ 65536) (base n : Int) (he : pErr 2 64 base n ws.length ≠ 0) :
    Calls Tryz.prog 119 #[.pointer (some ⟨mb, 0, none⟩), .int .i64 base, .int .i64 n] w fun e w' => e = .returned (.tuple #[.pointer none, .int .i64 (pErr 2 64 base n ws.length)]) ∧ Keep Nil w w' := by
  have H := hid h
  clear h
  by_cases hn : n < 1 ∨ 64 < n
  · rw [pErr_two hn]
    have HW := hid (fun (w : World) => @ewords_no w n hn)
    clear hn he
    go_enter Tryz.func119, Tryz.ntmps119
    go_wp2_with fail
    refine (HW.out _).mono ?_
    rintro e w' ⟨rfl, rfl⟩
    go_wp2
    go_ret2
    exact ⟨rfl, (Keep.refl Nil w).alloc _⟩
  · have h3 : base < 0 ∨ (ws.length : Int) < base + 2 * n := by
      apply Classical.byContradiction
      intro h'
      apply he
      unfold pErr
      rw [if_neg hn, if_neg h']
    rw [pErr_three hn h3]
    have HW := hid (fun (w : World) => @ewords_ok w n (by omega))
    by_cases h4 : base < 0
    · have d1 : decide (base < 0) = true := decide_eq_true h4
      clear hn he h3 h4
      go_enter Tryz.func119, Tryz.ntmps119
      go_wp2_with fail
      refine (HW.out _).mono ?_
      rintro e w' ⟨rfl, rfl⟩
      go_wp2
      go_ret2
      exact ⟨rfl, (Keep.refl Nil w).alloc _⟩
    have d1 : decide (base < 0) = false := decide_eq_false h4
    by_cases h5 : 65536 < base
    · have d2 : decide (65536 < base) = true := decide_eq_true h5
      clear hn he h3 h4 h5
      go_enter Tryz.func119, Tryz.ntmps119
      go_wp2_with fail
      refine (HW.out _).mono ?_
      rintro e w' ⟨rfl, rfl⟩
      go_wp2
      go_ret2
      exact ⟨rfl, (Keep.refl Nil w).alloc _⟩
    have d2 : decide (65536 < base) = false := decide_eq_false h5
    have HP := hid (peek_no (H.out.keep ((Keep.refl Nil w).alloc (.cells #[.int .i64 base] 3)) (fun _ _ h => h)) (base + 2 * n - 1) (by omega))
    have n0 : 1 ≤ n := by omega
    have n1 : n ≤ 64 := by omega
    clear hn he h3
    go_enter Tryz.func119, Tryz.ntmps119
    go_wp2_with fail
    refine (HW.out _).mono ?_
    rintro e w' ⟨rfl, rfl⟩
    go_wp2_with fail
    refine HP.out.mono ?_
    rintro e w' ⟨rfl, rfl⟩
    go_wp2
    go_ret2
    exact ⟨rfl, (Keep.refl Nil w).alloc _⟩

set_option maxHeartbeats 1000000 in
theorem renew_err (h : RefAt w mb F ws log) (hl : ws.length ≤ 65536) (base n : Int) (he : pErr 2 64 base n ws.length ≠ 0) :
    Calls Tryz.prog 167 #[.pointer (some ⟨mb, 0, none⟩), .int .i64 base, .int .i64 n] w fun e w' => e = .returned (.tuple #[.pointer none, .int .i64 (pErr 2 64 base n ws.length)]) ∧ w = w' := by
  have H := hid h
  clear h
  by_cases hn : n < 1 ∨ 64 < n
  · rw [pErr_two hn]
    have hw := @rewords_no w n hn
    have HW := hid hw
    clear hw hn he hl
    go_enter Tryz.func167, Tryz.ntmps167
    go_wp2_with fail
    refine HW.out.mono ?_
    rintro e w' ⟨rfl, rfl⟩
    go_wp2
    go_ret2
    exact ⟨rfl, rfl⟩
  · have h3 : base < 0 ∨ (ws.length : Int) < base + 2 * n := by
      apply Classical.byContradiction
      intro h'
      apply he
      unfold pErr
      rw [if_neg hn, if_neg h']
    rw [pErr_three hn h3]
    have hw := @rewords_ok w n (by omega)
    have hf := fits_no H.out base (2 * n) (by omega) (by omega) (by omega) h3
    have HW := hid hw
    have HF := hid hf
    clear hw hn he hl h3 hf
    go_enter Tryz.func167, Tryz.ntmps167
    go_wp2_with fail
    refine HW.out.mono ?_
    rintro e w' ⟨rfl, rfl⟩
    go_wp2_with fail
    refine HF.out.mono ?_
    rintro e w' ⟨rfl, rfl⟩
    go_wp2
    go_ret2
    exact ⟨rfl, rfl⟩

end
end Go.Proofs.YtjghenomeindcaaGreat

/-! each: the engine; New, Open: contracts. -/
namespace Go.Proofs.YtjghenomeindcaaGreat
open Go.RowKit Go.Lf

/-- The slots of the engine: number, begun. -/
def eCells (l : List (Int × Bool)) : List Value := l.flatMap fun p => [.int .u64 p.1, .bool p.2]
theorem eCells_len (l : List (Int × Bool)) : (eCells l).length = l.length * 2 := by
  induction l with
  | nil => rfl
  | cons a l ih => rw [eCells, List.flatMap_cons, List.length_append]; unfold eCells at ih; rw [ih]; simp; omega
theorem eCells_at {l : List (Int × Bool)} {k : Nat} {x : Int} {b : Bool} (h : l[k]? = some (x, b)) : (eCells l)[k * 2]? = some (.int .u64 x) ∧ (eCells l)[k * 2 + 1]? = some (.bool b) := by
  induction l generalizing k with
  | nil => simp at h
  | cons a l ih =>
    cases k with
    | zero =>
      simp at h; subst h
      exact ⟨rfl, rfl⟩
    | succ k =>
      have h1 := ih (k := k) (by simpa using h)
      rw [show (k + 1) * 2 = k * 2 + 1 + 1 by omega]
      exact h1

structure EEngAt (w : World) (g sb cb mb : Nat) (base : Int) (sl : List (Int × Bool)) : Prop where
  head : w.heap[g]? = some (.cells #[.pointer (some ⟨mb, 0, none⟩), .slice (some ⟨sb, 0, none⟩) sl.length sl.length, .func (.func 150) #[] #[.pointer (some ⟨cb, 0, none⟩)]] 273 (0, 0))
  slots : w.heap[sb]? = some (.cells (eCells sl).toArray 357 (0, 0))
  cap : w.heap[cb]? = some (.cells #[.int .i64 base] 3 (0, 0))
  n1 : g ≠ sb
  n2 : cb ≠ sb
theorem EEngAt.keep {w w' : World} {g sb cb mb : Nat} {base : Int} {sl : List (Int × Bool)} {S : Nat → Prop} (h : EEngAt w g sb cb mb base sl) (hk : Keep S w w') (h1 : ¬ S g) (h2 : ¬ S sb) (h3 : ¬ S cb) : EEngAt w' g sb cb mb base sl :=
  ⟨hk.at h.head h1, hk.at h.slots h2, hk.at h.cap h3, h.n1, h.n2⟩
theorem EEngAt.cells {w : World} {g sb cb mb : Nat} {base : Int} {sl : List (Int × Bool)} (h : EEngAt w g sb cb mb base sl) :
    w.cell? ⟨g, 0, none⟩ = some (.pointer (some ⟨mb, 0, none⟩)) ∧ w.cell? ⟨g, 1, none⟩ = some (.slice (some ⟨sb, 0, none⟩) sl.length sl.length) ∧ w.cell? ⟨g, 2, none⟩ = some (.func (.func 150) #[] #[.pointer (some ⟨cb, 0, none⟩)]) ∧ w.cell? ⟨cb, 0, none⟩ = some (.int .i64 base) := by
  refine ⟨?_, ?_, ?_, ?_⟩
  · rw [cell_of h.head]; rfl
  · rw [cell_of h.head]; rfl
  · rw [cell_of h.head]; rfl
  · rw [cell_of h.cap]; rfl
theorem EEngAt.slot {w : World} {g sb cb mb : Nat} {base : Int} {sl : List (Int × Bool)} (h : EEngAt w g sb cb mb base sl) {k : Nat} {x : Int} {b : Bool} (hx : sl[k]? = some (x, b)) :
    w.cell? ⟨sb, k * 2, none⟩ = some (.int .u64 x) ∧ w.cell? ⟨sb, k * 2 + 1, none⟩ = some (.bool b) := by
  obtain ⟨h1, h2⟩ := eCells_at hx
  constructor
  · rw [cell_of h.slots]; simpa using h1
  · rw [cell_of h.slots]; simpa using h2

theorem infoESlot : (Tryz.prog.info? 357).map (fun i => (i.zero, i.size, i.bytes)) = some (some (.agg #[.int .u64 0, .bool false]), 2, 16) := by kernel_rfl
theorem eslots_made (n : Nat) : madeCells (#[.int .u64 0, .bool false] : Array Value) (n * 2) = (eCells (List.replicate n (0, false))).toArray := by
  apply Array.ext'
  rw [madeCells, Array.toList_map, Array.toList_range]
  induction n with
  | zero => rfl
  | succ n ih =>
    have e : (n + 1) * 2 = n * 2 + 1 + 1 := by omega
    rw [e, List.range_succ, List.range_succ, List.replicate_succ', List.map_append, List.map_append, ih]
    have a0 : n * 2 % 2 = 0 := by omega
    have a1 : (n * 2 + 1) % 2 = 1 := by omega
    simp [eCells, a0, a1]

section
variable {w : World} {mb : Nat} {F : Nat → Prop} {ws : List Int} {log : List Acc}
def ENewTo (w : World) (mb : Nat) (base : Int) (n : Nat) (e : Ending) (w' : World) : Prop :=
  ∃ g sb cb, e = .returned (.tuple #[.pointer (some ⟨g, 0, none⟩), .int .i64 0]) ∧ EEngAt w' g sb cb mb base (List.replicate n (0, false)) ∧ Keep Nil w w' ∧ w.heap.size ≤ g ∧ w.heap.size ≤ sb ∧ w.heap.size ≤ cb

set_option maxHeartbeats 1000000 in
theorem enew_ok (h : MemAt w mb F ws log) (hl : ws.length ≤ 65536) (base : Int) (n : Nat) (he : pErr 2 64 base n ws.length = 0) :
    Calls Tryz.prog 119 #[.pointer (some ⟨mb, 0, none⟩), .int .i64 base, .int .i64 n] w (ENewTo w mb base n) := by
  obtain ⟨n0, n1, b0, b1⟩ := pErr_zero he
  obtain ⟨x, hx⟩ : ∃ x, ws[(base + 2 * n - 1).toNat]? = some x := ⟨_, List.getElem?_eq_getElem (by omega)⟩
  have HP := hid (peek_ok (h.keep ((Keep.refl Nil w).alloc (.cells #[.int .i64 base] 3)) (fun _ _ h => h)) (base + 2 * n - 1) x (by omega) hx)
  have HW := hid (fun (w : World) => @ewords_ok w n ⟨n0, n1⟩)
  have d1 : decide (base < 0) = false := decide_eq_false (by omega)
  have d2 : decide (65536 < base) = false := decide_eq_false (by omega)
  have b2 : base ≤ 65536 := by omega
  clear h hx he hl b1
  go_enter Tryz.func119, Tryz.ntmps119
  go_wp2_with fail
  refine (HW.out _).mono ?_
  rintro e w' ⟨rfl, rfl⟩
  go_wp2_with fail
  refine HP.out.mono ?_
  rintro e w' ⟨rfl, rfl⟩
  go_wp2_with (at_make; refine wpList_mk _ rfl _ _ 271 rfl 357 _ 2 16 Tryz.underlying271 infoESlot _ _ (n : Int) rfl rfl ?p0 ?p1 ?p2 ?_)
  case p0 => omega
  case p1 => omega
  case p2 => omega
  intro w1 hh hk hz
  have h0 := heap_alloc_new w (.cells #[.int .i64 base] 3)
  have HB := hid (hk.at h0 (fun h => h))
  have HH := hid hh
  have HK := hid (((Keep.refl Nil w).alloc _).trans hk (fun _ _ h => h))
  have HZ := hid hz
  clear hh hk hz h0
  go_wp2
  go_ret2
  have h2 := heap_alloc_new w1 (.cells #[.pointer (some ⟨mb, 0, none⟩), .slice (some ⟨w.heap.size + 1, 0, none⟩) n n, .func (.func 150) #[] #[.pointer (some ⟨w.heap.size, 0, none⟩)]] 273)
  have h1 := HH.out
  have hz := HZ.out
  rw [eslots_made] at h1
  (try simp only [World.size_alloc] at h1)
  (try simp only [World.size_alloc] at hz)
  refine ⟨_, _, _, rfl, ⟨by rw [List.length_replicate]; exact h2, alloc_old h1 _, alloc_old HB.out _, by omega, by omega⟩, HK.out.alloc _, by omega, by omega, Nat.le_refl _⟩

def RENewTo (w : World) (e : Ending) (w' : World) : Prop := ∃ g, e = .returned (.tuple #[.pointer (some ⟨g, 0, none⟩), .int .i64 0]) ∧ Keep Nil w w'
theorem infoRSlot : (Tryz.prog.info? 360).map (fun i => (i.zero, i.size, i.bytes)) = some (some (.agg #[.int .u64 0, .bool false, .bool false]), 3, 16) := by kernel_rfl
set_option maxHeartbeats 1000000 in
theorem renew_ok (h : RefAt w mb F ws log) (hl : ws.length ≤ 65536) (base : Int) (n : Nat) (he : pErr 2 64 base n ws.length = 0) :
    Calls Tryz.prog 167 #[.pointer (some ⟨mb, 0, none⟩), .int .i64 base, .int .i64 n] w (RENewTo w) := by
  obtain ⟨n0, n1, b0, b1⟩ := pErr_zero he
  have HF := hid (fits_ok h base (2 * n) (by omega) (by omega) b0 b1)
  have HW := hid (@rewords_ok w n ⟨n0, n1⟩)
  clear h he hl b1
  go_enter Tryz.func167, Tryz.ntmps167
  go_wp2_with fail
  refine HW.out.mono ?_
  rintro e w' ⟨rfl, rfl⟩
  go_wp2_with fail
  refine HF.out.mono ?_
  rintro e w' ⟨rfl, rfl⟩
  go_wp2_with (at_make; refine wpList_mk _ rfl _ _ 313 rfl 360 _ 3 16 Tryz.underlying313 infoRSlot _ _ (n : Int) rfl rfl ?p0 ?p1 ?p2 ?_)
  case p0 => omega
  case p1 => omega
  case p2 => omega
  intro w1 hh hk hz
  have HK := hid hk
  clear hh hk hz
  go_wp2
  go_ret2
  exact ⟨_, rfl, HK.out.alloc _⟩

/-! Open. -/
variable {g sb cb : Nat} {base : Int} {sl : List (Int × Bool)}
def EOpenTo (w : World) (nums : List Int) (e : Ending) (w' : World) : Prop :=
  ∃ v, e = .returned v ∧ w'.ownsRow 0 3 1 v (fopens nums nums.length).length ((fopens nums nums.length).map (Value.int .i64)) ∧ Keep Nil w w' ∧ ∀ k, v.ownBlock = some k → w.heap.size ≤ k
end
end Go.Proofs.YtjghenomeindcaaGreat
