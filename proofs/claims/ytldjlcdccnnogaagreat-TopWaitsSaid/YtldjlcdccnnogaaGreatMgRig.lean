/- RigA, RigB, RigN, RigC, RigL, RigO, RigS, RigT, in one text. -/
import Derived.Test.YtldjlcdccnnogaaGreatPrW
import Derived.Test.YtldjlcdccnnogaaGreatEvW
import Derived.Deep.RegionHeld3
import Derived.Deep.DeepCutAuto
import Derived.StillTailTactics
import Derived.Test.YtldjlcdccnnogaaGreatFuncNil

/-! A rig's thread as cells, and the operations that begin. -/
set_option linter.unusedVariables false
set_option linter.unusedSimpArgs false
namespace Go.Lf
open Go.RowKit
/-- A thread of a rig: its operations, the one it is at, what it performs, whether it is inside. -/
structure TC where
  ov : Value
  ops : List (Int × Int)
  idx : Nat
  en : Option Nat
  wa : Option Nat
  pc : Int
  bg : Bool
  ins : Bool
  v : Int
def pbO : Option Nat → Value
  | none => .pointer none
  | some b => pb b
def TC.cells (t : TC) : List Value := [t.ov, .int .i64 t.idx, pbO t.en, pbO t.wa, .int .u8 t.pc, .bool t.bg, .bool t.ins, .int .u64 t.v]
/-- The cells of a thread, in a block of threads. -/
def TcAt (arr : Array Value) (o : Nat) (t : TC) : Prop := ∀ (j : Nat) (u : Value), t.cells[j]? = some u → arr[o + j]? = some u
theorem TcAt.put {arr : Array Value} {o j : Nat} {t t' : TC} {u : Value} (h : TcAt arr o t) (hj : j < 8) (hc : t'.cells = t.cells.set j u) : TcAt (arr.setIfInBounds (o + j) u) o t' := by
  intro i x hx
  have hlen : t.cells.length = 8 := rfl
  obtain ⟨y, hy⟩ : ∃ y, t.cells[j]? = some y := ⟨_, List.getElem?_eq_getElem (by omega)⟩
  have hin : o + j < arr.size := by obtain ⟨h, -⟩ := Array.getElem?_eq_some_iff.1 (h j y hy); exact h
  rw [hc, List.getElem?_set] at hx
  rw [Array.getElem?_setIfInBounds]
  by_cases e : j = i
  · subst e
    rw [if_pos rfl, if_pos (by omega)] at hx
    rw [if_pos rfl, if_pos hin]; exact hx
  · rw [if_neg e] at hx
    rw [if_neg (by omega)]
    exact h i x hx
theorem TcAt.far {arr : Array Value} {o i : Nat} {t : TC} {u : Value} (h : TcAt arr o t) (hi : i < o ∨ o + 8 ≤ i) : TcAt (arr.setIfInBounds i u) o t := by
  intro j x hx
  have hj : j < 8 := (List.getElem?_eq_some_iff.1 hx).1
  rw [Array.getElem?_setIfInBounds, if_neg (by omega)]
  exact h j x hx
/-- Outside the cells from o on, two blocks of threads agree. -/
def Same8 (o : Nat) (arr arr' : Array Value) : Prop := ∀ i, (i < o ∨ o + 8 ≤ i) → arr'[i]? = arr[i]?
theorem Same8.refl (o : Nat) (arr : Array Value) : Same8 o arr arr := fun _ _ => rfl
theorem Same8.put {o j : Nat} {arr arr' : Array Value} (h : Same8 o arr arr') (hj : j < 8) (u : Value) : Same8 o arr (arr'.setIfInBounds (o + j) u) := fun i hi => by
  rw [Array.getElem?_setIfInBounds, if_neg (by omega)]; exact h i hi
theorem Same8.trans {o : Nat} {a b c : Array Value} (h : Same8 o a b) (k : Same8 o b c) : Same8 o a c := fun i hi => (k i hi).trans (h i hi)
/-- Nothing is performed. -/
def TC.quiet (t : TC) : TC := { t with en := none, wa := none, pc := 0 }
def TC.refused (t : TC) : TC := { t with en := none, wa := none, pc := 1 }
end Go.Lf
namespace Go.Proofs.YtldjlcdccnnogaaGreat
open Go.RowKit Go.Lf
abbrev thTy : TypeId := 62
/-- A block of threads in a world, with one of its threads. -/
structure ThAt (w : World) (tb o : Nat) (arr : Array Value) (t : TC) : Prop where
  hb : w.heap[tb]? = some (.cells arr thTy (0, 0))
  tc : TcAt arr o t
section
variable {w w' : World} {tb o : Nat} {arr : Array Value} {t : TC}
theorem ThAt.cell (h : ThAt w tb o arr t) (j : Nat) {u : Value} (hu : t.cells[j]? = some u) : w.cell? ⟨tb, o + j, none⟩ = some u := by rw [cell_of h.hb]; exact h.tc j u hu
theorem ThAt.cells (h : ThAt w tb o arr t) : w.cell? ⟨tb, o, none⟩ = some t.ov ∧ w.cell? ⟨tb, o + 1, none⟩ = some (.int .i64 t.idx) ∧ w.cell? ⟨tb, o + 2, none⟩ = some (pbO t.en) ∧ w.cell? ⟨tb, o + 3, none⟩ = some (pbO t.wa) ∧ w.cell? ⟨tb, o + 4, none⟩ = some (.int .u8 t.pc) ∧ w.cell? ⟨tb, o + 5, none⟩ = some (.bool t.bg) ∧ w.cell? ⟨tb, o + 6, none⟩ = some (.bool t.ins) ∧ w.cell? ⟨tb, o + 7, none⟩ = some (.int .u64 t.v) :=
  ⟨h.cell 0 rfl, h.cell 1 rfl, h.cell 2 rfl, h.cell 3 rfl, h.cell 4 rfl, h.cell 5 rfl, h.cell 6 rfl, h.cell 7 rfl⟩
theorem ThAt.free (h : ThAt w tb o arr t) (i : Nat) : w.frozen? ⟨tb, i, none⟩ = false := free_of h.hb i
theorem ThAt.keep {S : Nat → Prop} (h : ThAt w tb o arr t) (hk : Keep S w w') (hn : ¬ S tb) : ThAt w' tb o arr t := ⟨hk.at h.hb hn, h.tc⟩
theorem ThAt.put (h : ThAt w tb o arr t) {j : Nat} {t' : TC} {u : Value} (hj : j < 8) (hc : t'.cells = t.cells.set j u) : ThAt (w.setCell ⟨tb, o + j, none⟩ u) tb o (arr.setIfInBounds (o + j) u) t' := ⟨set_same h.hb u, h.tc.put hj hc⟩
/-- Thread o of the block has turned, and no other, and the engine. -/
def ThTo {n : Nat} (E : PrW n) (w : World) (A : Nat → Prop) (tb o : Nat) (arr : Array Value) (x' : RX) (t' : TC) (w' : World) : Prop :=
  ∃ A' arr', E.P.lie w' A' x' ∧ ThAt w' tb o arr' t' ∧ Same8 o arr arr' ∧ Keep (fun k => A k ∨ k = tb) w w' ∧ Foot w A A'
/-- The machine's head: mem, engine, threads, events, steps, kinds. -/
def RgHead (w : World) (m : Nat) (mv : Value) (p tb n c : Nat) (ev : Value) (st : Nat) (rb : Nat) : Prop :=
  w.heap[m]? = some (.cells #[mv, pb p, .slice (some ⟨tb, 0, none⟩) n c, ev, .int .i64 st, .map (some rb)] 56 (0, 0))
theorem RgHead.cells {m : Nat} {mv ev : Value} {p n c st rb : Nat} (h : RgHead w m mv p tb n c ev st rb) : w.cell? ⟨m, 0, none⟩ = some mv ∧ w.cell? ⟨m, 1, none⟩ = some (pb p) ∧ w.cell? ⟨m, 2, none⟩ = some (.slice (some ⟨tb, 0, none⟩) n c) ∧ w.cell? ⟨m, 3, none⟩ = some ev ∧ w.cell? ⟨m, 4, none⟩ = some (.int .i64 st) ∧ w.cell? ⟨m, 5, none⟩ = some (.map (some rb)) := by
  refine ⟨?_, ?_, ?_, ?_, ?_, ?_⟩ <;> (rw [cell_of h]; rfl)
section
variable {n : Nat} {E : PrW n} {m rb c st : Nat} {mv ev : Value} {A : Nat → Prop} {x : RX} {k : Nat}
theorem rg_dummy : True := trivial
end
end
end Go.Proofs.YtldjlcdccnnogaaGreat

/-! A rig's operations begin. -/
set_option linter.unusedVariables false
set_option linter.unusedSimpArgs false
namespace Go.Proofs.YtldjlcdccnnogaaGreat
open Go.RowKit Go.Lf
section
variable {w w' : World} {tb o : Nat} {arr : Array Value} {t : TC} {n : Nat} {E : PrW n} {m rb c st : Nat} {mv ev : Value} {A : Nat → Prop} {x : RX} {k : Nat}
set_option maxHeartbeats 1000000 in
theorem rg_exit_no (h : ThAt w tb o arr t) (v : Int) (hv : v ≠ 0 ∨ t.ins = false) : Calls Tryz.prog 29 #[pb m, .pointer (some ⟨tb, o, none⟩), .int .i64 k, .int .u64 v] w fun e w' => e = .returned (.bool false) ∧ w = w' := by
  obtain ⟨c0, c1, c2, c3, c4, c5, c6, c7⟩ := h.cells
  clear h c0 c1 c2 c3 c4 c5 c7
  by_cases h0 : v = 0
  · have h1 : t.ins = false := hv.resolve_left (fun e => e h0)
    subst h0
    rw [h1] at c6
    clear hv h1
    go_enter Tryz.func29, Tryz.ntmps29
    go_wp2
    go_ret
    exact ⟨rfl, rfl⟩
  · have d0 : (v != 0) = true := by simp [h0]
    clear hv h0
    go_enter Tryz.func29, Tryz.ntmps29
    go_wp2
    go_ret
    exact ⟨rfl, rfl⟩
theorem rtype_ne {w : World} {b c : Nat} {x y : Array Value} {s t : TypeId} (h : w.heap[b]? = some (.cells x s (0, 0))) (k : w.heap[c]? = some (.cells y t (0, 0))) (hst : s ≠ t) : b ≠ c := by
  rintro rfl
  rw [h] at k
  cases k
  exact hst rfl
/-- The engine, where only the threads' block has turned. -/
theorem ThTo.of {W : World} {arr' : Array Value} {t' : TC} (hE : E.P.lie w A x) (ha : ¬ A tb) (hk : Keep (fun k => k = tb) w W) (h' : ThAt W tb o arr' t') (hs : Same8 o arr arr') : ThTo E w A tb o arr x t' W :=
  ⟨A, arr', E.P.keep hE hk (fun k hA e => ha (e ▸ hA)), h', hs, hk.mono (fun _ _ e => .inr e), fun _ h => .inl h⟩
set_option maxHeartbeats 1000000 in
theorem rg_exit_ok (hm : RgHead w m mv E.p tb n c ev st rb) (h : ThAt w tb o arr t) (hE : E.P.lie w A x) (ha : ¬ A tb) (hins : t.ins = true) :
    Calls Tryz.prog 29 #[pb m, .pointer (some ⟨tb, o, none⟩), .int .i64 k, .int .u64 0] w fun e w' => e = .returned (.bool true) ∧ ThTo E w A tb o arr x { t with pc := if E.kind = 3 then 16 else 13 } w' := by
  obtain ⟨c0, c1, c2, c3, c4, c5, c6, c7⟩ := h.cells
  obtain ⟨m0, m1, m2, m3, m4, m5⟩ := hm.cells
  have f4 := h.free (o + 4)
  have nm : tb ≠ m := rtype_ne h.hb hm (by decide)
  rw [hins] at c6
  have k1 : Keep (fun k => k = tb) w (w.setCell ⟨tb, o + 4, none⟩ (.int .u8 13)) := Keep.setCell (S := fun k => k = tb) (Keep.refl _ _) (.inl rfl) _
  have h1 := h.put (t' := { t with pc := 13 }) (u := .int .u8 13) (j := 4) (by omega) rfl
  have m1' := k1.cell m1 (fun e => nm e.symm)
  have HC := hid (E.engine (E.P.keep hE k1 (fun k hA e => ha (e ▸ hA))))
  have H := hid hE
  have HA := hid ha
  have H1 := hid h1
  have K1 := hid k1
  clear hm h hE ha hins m0 m1 m2 m3 m4 m5 c0 c1 c2 c3 c5 c7
  cases hb : (E.kind == 3) with
  | true =>
    rw [if_pos (by simpa using hb)]
    go_enter Tryz.func29, Tryz.ntmps29
    go_wp2_with fail
    refine HC.out.mono ?_
    rintro e w1 ⟨rfl, hk⟩
    have h2 := H1.out.keep hk (fun e => e)
    have c4' := h2.cell 4 rfl
    have f4' := h2.free (o + 4)
    go_wp2
    go_ret
    exact ⟨rfl, ThTo.of H.out HA.out ((K1.out.trans hk (fun _ _ e => e.elim)).setCell (.inl rfl) _) (h2.put (j := 4) (by omega) rfl) (((Same8.refl _ _).put (by omega) _).put (by omega) _)⟩
  | false =>
    rw [if_neg (by simpa using hb)]
    go_enter Tryz.func29, Tryz.ntmps29
    go_wp2_with fail
    refine HC.out.mono ?_
    rintro e w1 ⟨rfl, hk⟩
    have h2 := H1.out.keep hk (fun e => e)
    go_wp2
    go_ret
    exact ⟨rfl, ThTo.of H.out HA.out (K1.out.trans hk (fun _ _ e => e.elim)) h2 ((Same8.refl _ _).put (by omega) _)⟩
set_option maxHeartbeats 1000000 in
theorem rg_enter_no (h : ThAt w tb o arr t) (v : Int) (hv : 64 ≤ v ∨ t.ins = true) : Calls Tryz.prog 28 #[pb m, .pointer (some ⟨tb, o, none⟩), .int .i64 k, .int .u64 v] w fun e w' => e = .returned (.bool false) ∧ w = w' := by
  obtain ⟨c0, c1, c2, c3, c4, c5, c6, c7⟩ := h.cells
  clear h c0 c1 c2 c3 c4 c5 c7
  by_cases h0 : 64 ≤ v
  · have d0 : decide (64 ≤ v) = true := decide_eq_true h0
    clear hv h0
    go_enter Tryz.func28, Tryz.ntmps28
    go_wp2
    go_ret
    exact ⟨rfl, rfl⟩
  · have h1 : t.ins = true := hv.resolve_left h0
    have d0 : decide (64 ≤ v) = false := decide_eq_false h0
    rw [h1] at c6
    clear hv h1 h0
    go_enter Tryz.func28, Tryz.ntmps28
    go_wp2
    go_ret
    exact ⟨rfl, rfl⟩
set_option maxHeartbeats 1000000 in
theorem rg_wait_no (h : ThAt w tb o arr t) (v : Int) (hv : v = 0 ∨ t.ins = true) : Calls Tryz.prog 30 #[pb m, .pointer (some ⟨tb, o, none⟩), .int .i64 k, .int .u64 v] w fun e w' => e = .returned (.bool false) ∧ w = w' := by
  obtain ⟨c0, c1, c2, c3, c4, c5, c6, c7⟩ := h.cells
  clear h c0 c1 c2 c3 c4 c5 c7
  by_cases h0 : v = 0
  · subst h0
    clear hv
    go_enter Tryz.func30, Tryz.ntmps30
    go_wp2
    go_ret
    exact ⟨rfl, rfl⟩
  · have h1 : t.ins = true := hv.resolve_left h0
    have d0 : (v == 0) = false := by simp [h0]
    rw [h1] at c6
    clear hv h1 h0
    go_enter Tryz.func30, Tryz.ntmps30
    go_wp2
    go_ret
    exact ⟨rfl, rfl⟩
set_option maxHeartbeats 2000000 in
theorem rg_enter_ok (hm : RgHead w m mv E.p tb n c ev st rb) (h : ThAt w tb o arr t) (hE : E.P.lie w A x) (ha : ¬ A tb) (hK : x.K ≤ 900) (hk : k < n) (hT : x.T k = .idle) {v : Int} (v0 : 0 ≤ v) (v1 : v < 64) (hins : t.ins = false) :
    Calls Tryz.prog 28 #[pb m, .pointer (some ⟨tb, o, none⟩), .int .i64 k, .int .u64 v] w fun e w' => e = .returned (.bool true) ∧ ∃ b, ThTo E w A tb o arr (x.enter k v b) { t with en := some b, v := v } w' := by
  obtain ⟨c0, c1, c2, c3, c4, c5, c6, c7⟩ := h.cells
  obtain ⟨m0, m1, m2, m3, m4, m5⟩ := hm.cells
  rw [hins] at c6
  have d0 : decide (64 ≤ v) = false := decide_eq_false (by omega)
  have e0 : IntKind.i64.wrap v = v := by rw [IntKind.wrap_i64]; omega
  have HC := hid (E.enter k v hE hK hk hT v0 v1)
  have H := hid h
  have HA := hid ha
  clear hm h hE ha hins m0 m2 m3 m4 m5 c0 c1 c2 c3 c4 c5 c7 hK hk hT v0 v1
  go_enter Tryz.func28, Tryz.ntmps28
  go_wp2_with fail
  refine HC.out.mono ?_
  rintro e w1 ⟨b, rfl, ht⟩
  have HT := hid ht
  obtain ⟨A', q1, q2, q3⟩ := ht
  have h1 := H.out.keep q2 HA.out
  have H1 := hid h1
  have c2' := h1.cell 2 rfl
  have c7' := h1.cell 7 rfl
  have f2' := h1.free (o + 2)
  have f7' := h1.free (o + 7)
  clear h1 q1 q2 q3 HC m1 c6
  go_wp2
  go_ret
  refine ⟨rfl, b, ?_⟩
  obtain ⟨A', q1, q2, q3⟩ := HT.out
  have na : ¬ A' tb := fun e => (q3 tb e).elim HA.out (fun e => by have := lt_of_block H.out.hb; omega)
  have kk : Keep (fun k => k = tb) w1 ((w1.setCell ⟨tb, o + 2, none⟩ (pb b)).setCell ⟨tb, o + 7, none⟩ (.int .u64 v)) := Keep.setCell (S := fun k => k = tb) (Keep.setCell (S := fun k => k = tb) (Keep.refl _ _) (.inl rfl) _) (.inl rfl) _
  exact ⟨A', _, E.P.keep q1 kk (fun k hA e => na (e ▸ hA)), (H1.out.put (j := 2) (t' := { t with en := some b }) (by omega) rfl).put (j := 7) (t' := { t with en := some b, v := v }) (by omega) rfl, ((Same8.refl _ _).put (by omega) _).put (by omega) _, (q2.mono (fun _ _ e => .inl e)).trans kk (fun _ _ e => .inr e), q3⟩
set_option maxHeartbeats 2000000 in
theorem rg_wait_ok (hm : RgHead w m mv E.p tb n c ev st rb) (h : ThAt w tb o arr t) (hE : E.P.lie w A x) (ha : ¬ A tb) (hK : x.K ≤ 900) (hk : k < n) (hT : x.T k = .idle) {v : Int} (v0 : 0 < v) (v1 : v < 18446744073709551616) (hins : t.ins = false) :
    Calls Tryz.prog 30 #[pb m, .pointer (some ⟨tb, o, none⟩), .int .i64 k, .int .u64 v] w fun e w' => e = .returned (.bool true) ∧ ∃ b, ∃ r ≤ E.bnd v, ThTo E w A tb o arr (x.wait k v r b) { t with wa := some b, bg := false } w' := by
  obtain ⟨c0, c1, c2, c3, c4, c5, c6, c7⟩ := h.cells
  obtain ⟨m0, m1, m2, m3, m4, m5⟩ := hm.cells
  rw [hins] at c6
  have d0 : (v == 0) = false := by simp; omega
  have HC := hid (E.wait k v hE hK hk hT v0 v1)
  have H := hid h
  have HA := hid ha
  clear hm h hE ha hins m0 m2 m3 m4 m5 c0 c1 c2 c3 c4 c5 c7 hK hk hT v0 v1
  go_enter Tryz.func30, Tryz.ntmps30
  go_wp2_with fail
  refine HC.out.mono ?_
  rintro e w1 ⟨b, r, hr, rfl, ht⟩
  have HT := hid ht
  obtain ⟨A', q1, q2, q3⟩ := ht
  have h1 := H.out.keep q2 HA.out
  have H1 := hid h1
  have c2' := h1.cell 3 rfl
  have c7' := h1.cell 5 rfl
  have f2' := h1.free (o + 3)
  have f7' := h1.free (o + 5)
  clear h1 q1 q2 q3 HC m1 c6
  go_wp2
  go_ret
  refine ⟨rfl, b, r, hr, ?_⟩
  obtain ⟨A', q1, q2, q3⟩ := HT.out
  have na : ¬ A' tb := fun e => (q3 tb e).elim HA.out (fun e => by have := lt_of_block H.out.hb; omega)
  have kk : Keep (fun k => k = tb) w1 ((w1.setCell ⟨tb, o + 3, none⟩ (pb b)).setCell ⟨tb, o + 5, none⟩ (.bool false)) := Keep.setCell (S := fun k => k = tb) (Keep.setCell (S := fun k => k = tb) (Keep.refl _ _) (.inl rfl) _) (.inl rfl) _
  exact ⟨A', _, E.P.keep q1 kk (fun k hA e => na (e ▸ hA)), (H1.out.put (j := 3) (t' := { t with wa := some b }) (by omega) rfl).put (j := 5) (t' := { t with wa := some b, bg := false }) (by omega) rfl, ((Same8.refl _ _).put (by omega) _).put (by omega) _, (q2.mono (fun _ _ e => .inl e)).trans kk (fun _ _ e => .inr e), q3⟩
set_option maxHeartbeats 1000000 in
/-- What the next step of a thread does. -/
theorem rg_next_pc (h : ThAt w tb o arr t) (h1 : t.en = none) (h2 : t.wa = none) : Calls Tryz.prog 15 #[.pointer (some ⟨tb, o, none⟩)] w fun e w' => e = .returned (.int .u8 t.pc) ∧ w = w' := by
  obtain ⟨c0, c1, c2, c3, c4, c5, c6, c7⟩ := h.cells
  rw [h1] at c2
  rw [h2] at c3
  simp only [pbO] at c2 c3
  clear h c0 c1 c5 c6 c7
  go_enter Tryz.func15, Tryz.ntmps15
  go_wp2
  go_ret
  exact ⟨rfl, rfl⟩
set_option maxHeartbeats 1000000 in
theorem rg_next_en (h : ThAt w tb o arr t) {b : Nat} (h1 : t.en = some b) (hc : Calls Tryz.prog 34 #[pb b] w fun e w' => ∃ pc, e = .returned (.int .u8 pc) ∧ pc ≠ 0 ∧ Keep Nil w w') : Calls Tryz.prog 15 #[.pointer (some ⟨tb, o, none⟩)] w fun e w' => ∃ pc, e = .returned (.int .u8 pc) ∧ pc ≠ 0 ∧ Keep Nil w w' := by
  obtain ⟨c0, c1, c2, c3, c4, c5, c6, c7⟩ := h.cells
  rw [h1] at c2
  simp only [pbO] at c2
  clear h c0 c1 c5 c6 c7 c3 c4
  go_enter Tryz.func15, Tryz.ntmps15
  go_wp2_with fail
  refine hc.mono ?_
  rintro e w1 ⟨pc, rfl, p0, hk⟩
  go_wp2
  go_ret
  exact ⟨pc, rfl, p0, hk⟩
set_option maxHeartbeats 1000000 in
theorem rg_next_wa (h : ThAt w tb o arr t) {b : Nat} (h1 : t.en = none) (h2 : t.wa = some b) (hc : Calls Tryz.prog 35 #[pb b] w fun e w' => ∃ pc, e = .returned (.int .u8 pc) ∧ pc ≠ 0 ∧ Keep Nil w w') : Calls Tryz.prog 15 #[.pointer (some ⟨tb, o, none⟩)] w fun e w' => ∃ pc, e = .returned (.int .u8 pc) ∧ pc ≠ 0 ∧ Keep Nil w w' := by
  obtain ⟨c0, c1, c2, c3, c4, c5, c6, c7⟩ := h.cells
  rw [h1] at c2
  rw [h2] at c3
  simp only [pbO] at c2 c3
  clear h c0 c1 c5 c6 c7 c4
  go_enter Tryz.func15, Tryz.ntmps15
  go_wp2_with fail
  refine hc.mono ?_
  rintro e w1 ⟨pc, rfl, p0, hk⟩
  go_wp2
  go_ret
  exact ⟨pc, rfl, p0, hk⟩
end
end Go.Proofs.YtldjlcdccnnogaaGreat

/-! A rig notes an event. -/
set_option linter.unusedVariables false
set_option linter.unusedSimpArgs false
namespace Go.Proofs.YtldjlcdccnnogaaGreat
open Go.RowKit Go.Lf
theorem infoEvt : (Tryz.prog.info? 43).map (fun i => (i.zero, i.size, i.bytes)) = some (some (.agg #[.int .i64 0, .int .i64 0, .int .u8 0, .int .u64 0]), 4, 32) := by kernel_rfl
section
variable {w w' : World} {tb m p n c st rb N : Nat} {mv : Value} {ea : Option Addr} {ec : Nat} {xs : List Value}
def NoteTo (w : World) (m : Nat) (mv : Value) (p tb n c : Nat) (ea : Option Addr) (N ec st rb : Nat) (xs : List Value) (e : Ending) (w' : World) : Prop :=
  e = .returned (.tuple #[]) ∧ ∃ ea' ec', RgHead w' m mv p tb n c (.slice ea' (N + 1) ec') st rb ∧ w'.ownsRow 0 43 4 (.slice ea' (N + 1) ec') (N + 1) xs ∧ RowStep w (.slice ea N ec) (.slice ea' (N + 1) ec') ∧ Keep (fun j => j = m ∨ (Value.slice ea N ec).ownBlock = some j) w w'
set_option maxHeartbeats 2000000 in
theorem rnote_ok (hm : RgHead w m mv p tb n c (.slice ea N ec) st rb) (hown : w.ownsRow 0 43 4 (.slice ea N ec) N xs) (hne : (Value.slice ea N ec).ownBlock ≠ some m) (hN : N < 1000000) (k kd v : Int) :
    Calls Tryz.prog 37 #[pb m, .int .i64 k, .int .u8 kd, .int .u64 v] w (NoteTo w m mv p tb n c ea N ec st rb (xs ++ [.int .i64 st, .int .i64 k, .int .u8 kd, .int .u64 v])) := by
  obtain ⟨m0, m1, m2, m3, m4, m5⟩ := hm.cells
  have f3 := free_of hm 3
  have hlt := lt_of_block hm
  have HR := hid hown
  have HM := hid hm
  have HN1 := hid hne
  clear hown hm m0 m1 m2 m5 hne
  go_enter Tryz.func37, Tryz.ntmps37
  go_region_law (refine step_app _ rfl (.tmp 12) (.tmp 21) 37 rfl 43 _ 4 32 Tryz.underlying37 infoEvt rfl (by decide) (.slice ea N ec) N xs (by simp [Act.eval]) ((row_drew HR.out).alloc _) _ 1 [.int .i64 st, .int .i64 k, .int .u8 kd, .int .u64 v] (by simp [Act.eval]) (rd_new _ _ _ _ _ _) (by simp [Value.oneCell']) (by omega) (by unfold maxLen; omega) ?_; intro ea' ec' w1 ho hg hs; have hb1 : RgHead w1 m mv p tb n c (.slice ea N ec) st rb := (hg.block m (by simp; omega) (fun e => HN1.out e.symm)).trans (alloc_old HM.out _); have hf1 : w1.frozen? ⟨m, 3, none⟩ = false := free_of hb1 3; have hc1 : w1.cell? ⟨m, 3, none⟩ = some (.slice ea N ec) := hb1.cells.2.2.2.1; have hc4 : w1.cell? ⟨m, 4, none⟩ = some (.int .i64 st) := hb1.cells.2.2.2.2.1; have HG := hid hg; have HB1 := hid hb1; have HO := hid ho; have HGS := hid hs; clear hg hb1 ho hs)
  all_goals
    go_wp2
    go_end0
    refine ⟨rfl, ea', ec', ?_, ?_, ?_, ?_⟩
    · unfold RgHead; rw [set_same HB1.out]; rfl
    · refine ownsRow_setCell_other HO.out (fun e => ?_) _
      rcases HGS.out m e with h | h
      · exact HN1.out h
      · simp at h; omega
    · intro j hj
      rcases HGS.out j hj with h | h
      · exact .inl h
      · exact .inr (by simp at h; omega)
    · exact Keep.setCell (Keep.grown ((Keep.refl _ _).alloc _ |>.drew) HG.out (fun j hj => .inl (.inr hj))) (.inl (.inl rfl)) _
end
end Go.Proofs.YtldjlcdccnnogaaGreat

/-! A rig begins the next operation of a thread. -/
set_option linter.unusedVariables false
set_option linter.unusedSimpArgs false
namespace Go.Lf
open Go.RowKit
theorem run_fmiss {P : Program} {w : World} {t kt et : TypeId} {r : Nat} {es : List MapEntry} {kd : IntKind} (hm : P.underlying t = some (.map kt et)) (hk : P.underlying kt = some (.int kd)) (h : MapAt w r es) (k : Int) {z : Value} (hz : (zeroValue et).run P w = .ok z w) (hn : Instr.findNow (.int kd) (.int kd k) es 0 = some none) :
    (Instr.lookup t (.map (some r)) (.int kd k) false).run P w = .ok z w := by
  obtain ⟨clock, hb⟩ := h
  have hc : ∀ b, (Instr.checkKey b 10000 kt (.int kd k)).run P w = .ok () w := fun b => MapKept.run_checkKey (k := .int kd k) hk (by simp [MapKept.IsKey]) b 9999
  simp [Instr.lookup, run_underlying hm, MapKept.run_getObj_map hb, hc, MapKept.run_findKey hk hn, hz, Result.andThen]
end Go.Lf
namespace Go.Proofs.YtldjlcdccnnogaaGreat
open Go.RowKit Go.Lf
theorem rk_zero (w : World) : (zeroValue 91).run Tryz.prog w = .ok .nilFunc w := by kernel_rfl
theorem rk_eqf (w : World) (f : Fn) (x y : Array Value) : (binOp .eql 91 (.func f x y) .nilFunc).run Tryz.prog w = .ok (.bool false) w := run_eql_func w Tryz.underlying91 f x y
theorem rk_eqn (w : World) : (binOp .eql 91 .nilFunc .nilFunc).run Tryz.prog w = .ok (.bool true) w := run_eql_nilf w Tryz.underlying91
attribute [local go_sem] rk_eqf rk_eqn
/-- The kinds of operations. -/
def rkl (m c1 c2 c3 : Nat) : List MapEntry := [⟨.int .u8 1, .func (.func 28) #[pb m] #[], c1⟩, ⟨.int .u8 2, .func (.func 29) #[pb m] #[], c2⟩, ⟨.int .u8 3, .func (.func 30) #[pb m] #[], c3⟩]
def RKinds (w : World) (m r : Nat) : Prop := ∃ c1 c2 c3, MapAt w r (rkl m c1 c2 c3)
def rigCells (l : List (Int × Int)) : List Value := l.flatMap fun p => [.int .u8 p.1, .int .u64 p.2]
theorem rigCells_len (l : List (Int × Int)) : (rigCells l).length = l.length * 2 := by
  induction l with
  | nil => rfl
  | cons p l ih => simp only [rigCells, List.flatMap_cons, List.length_append, List.length_cons, List.length_nil] at ih ⊢; omega
theorem rigCells_at {l : List (Int × Int)} {k : Nat} {a b : Int} (h : l[k]? = some (a, b)) : (rigCells l)[k * 2]? = some (.int .u8 a) ∧ (rigCells l)[k * 2 + 1]? = some (.int .u64 b) := by
  induction l generalizing k with
  | nil => simp at h
  | cons p l ih =>
    cases k with
    | zero => simp only [List.getElem?_cons_zero, Option.some.injEq] at h; subst h; exact ⟨rfl, rfl⟩
    | succ k =>
      obtain ⟨h1, h2⟩ := ih (by simpa using h)
      refine ⟨?_, ?_⟩
      · rw [show (k + 1) * 2 = k * 2 + 1 + 1 by omega]; exact h1
      · rw [show (k + 1) * 2 + 1 = k * 2 + 1 + 1 + 1 by omega]; exact h2
/-- The machine as begin reads it. -/
structure RgIn (w : World) (m : Nat) (mv : Value) (p tb n c : Nat) (ev : Value) (st rb : Nat) (k : Nat) (arr : Array Value) (t : TC) : Prop where
  hm : RgHead w m mv p tb n c ev st rb
  th : ThAt w tb (k * 8) arr t
  kn : RKinds w m rb
  rd : Rd w 2 t.ov t.ops.length (rigCells t.ops)
  kl : k < n
  nc : n ≤ c
  nt : ∀ j, t.ov.ownBlock = some j → j ≠ tb
  idx : t.idx ≤ t.ops.length
  len : t.ops.length ≤ 1000
section
variable {w w' : World} {tb : Nat} {arr : Array Value} {t : TC} {n : Nat} {E : PrW n} {m rb c st : Nat} {mv ev : Value} {A : Nat → Prop} {x : RX} {k : Nat}
abbrev nilW (w : World) (tb o : Nat) : World := ((w.setCell ⟨tb, o + 2, none⟩ (.pointer none)).setCell ⟨tb, o + 3, none⟩ (.pointer none)).setCell ⟨tb, o + 4, none⟩ (.int .u8 0)
abbrev nilA (arr : Array Value) (o : Nat) : Array Value := ((arr.setIfInBounds (o + 2) (.pointer none)).setIfInBounds (o + 3) (.pointer none)).setIfInBounds (o + 4) (.int .u8 0)
theorem RgIn.nilled (h : RgIn w m mv E.p tb n c ev st rb k arr t) : RgIn (nilW w tb (k * 8)) m mv E.p tb n c ev st rb k (nilA arr (k * 8)) t.quiet ∧ Keep (fun k => k = tb) w (nilW w tb (k * 8)) ∧ Same8 (k * 8) arr (nilA arr (k * 8)) := by
  have nm : tb ≠ m := rtype_ne h.th.hb h.hm (by decide)
  have kk : Keep (fun k => k = tb) w (nilW w tb (k * 8)) := Keep.setCell (S := fun k => k = tb) (Keep.setCell (S := fun k => k = tb) (Keep.setCell (S := fun k => k = tb) (Keep.refl _ _) (.inl rfl) _) (.inl rfl) _) (.inl rfl) _
  have nr : tb ≠ rb := by
    rintro rfl
    obtain ⟨c1, c2, c3, cl, h1⟩ := h.kn
    have := h.th.hb
    rw [h1] at this
    cases this
  refine ⟨⟨kk.at h.hm (fun e => nm e.symm), ?_, ?_, rd_keep h.rd kk (fun j hj => h.nt j hj), h.kl, h.nc, h.nt, h.idx, h.len⟩, kk, ((((Same8.refl _ _).put (by omega) _).put (by omega) _).put (by omega) _)⟩
  · exact (((h.th.put (j := 2) (t' := { t with en := none }) (by omega) rfl).put (j := 3) (t' := { t with en := none, wa := none }) (by omega) rfl).put (j := 4) (t' := t.quiet) (by omega) rfl)
  · obtain ⟨c1, c2, c3, h1⟩ := h.kn
    exact ⟨c1, c2, c3, h1.keep kk (fun e => nr e.symm)⟩
theorem ThTo.pre {W : World} {o : Nat} {arr1 : Array Value} {x' : RX} {t' : TC} (hk : Keep (fun k => k = tb) w W) (hs : Same8 o arr arr1) (h : ThTo E W A tb o arr1 x' t' w') : ThTo E w A tb o arr x' t' w' := by
  obtain ⟨A', arr', a, b, d, e, f⟩ := h
  have := hk.size
  exact ⟨A', arr', a, b, hs.trans d, (hk.mono (T := fun k => A k ∨ k = tb) (fun _ _ h => .inr h)).trans e (fun _ _ h => h), fun j hj => (f j hj).elim .inl (fun h => .inr (by omega))⟩
/-- All operations have ended. -/
theorem rbegin_fin (h : RgIn w m mv E.p tb n c ev st rb k arr t) (hE : E.P.lie w A x) (ha : ¬ A tb) (hi : t.idx = t.ops.length) :
    Calls Tryz.prog 17 #[pb m, .int .i64 k] w fun e w' => e = .returned (.tuple #[]) ∧ ThTo E w A tb (k * 8) arr x t.quiet w' := by
  obtain ⟨h1, kk, ss⟩ := h.nilled
  obtain ⟨c0, c1, c2, c3, c4, c5, c6, c7⟩ := h.th.cells
  obtain ⟨d0, d1, d2, d3, d4, d5, d6, d7⟩ := h1.th.cells
  obtain ⟨m0, m1, m2, m3, m4, m5⟩ := h.hm.cells
  have f2 := h.th.free (k * 8 + 2)
  have f3 := h.th.free (k * 8 + 3)
  have f4 := h.th.free (k * 8 + 4)
  obtain ⟨a0, c0', hov, -⟩ := h.rd
  simp only [TC.quiet] at d0 d1
  rw [hov] at d0
  have eq : ((t.idx : Int) == (t.ops.length : Int)) = true := by rw [hi]; simp
  have H := hid h
  have HE := hid hE
  have HA := hid ha
  have H1 := hid h1
  have KK := hid kk
  have SS := hid ss
  have hk := h.kl
  have hnc := h.nc
  clear h h1 kk ss hE ha d2 d3 d4 d5 d6 d7 m0 m1 m3 m4 m5 hov c0 c1 c5 c6 c7
  go_enter Tryz.func17, Tryz.ntmps17
  go_wp2
  generalize hW : nilW w tb (k * 8) = W at *
  go_quiet (fail)
  go_wp2
  refine bodyPost_ret (results_none rfl _ _ _) rfl ?_
  subst hW
  exact ⟨rfl, ThTo.of HE.out HA.out (KK.out.drewN nq) (H1.out.th.keep ((Keep.refl Nil _).drewN nq) (fun e => e)) SS.out⟩
theorem RgIn.quiet {p : Nat} (h : RgIn w m mv p tb n c ev st rb k arr t) (hk : Keep Nil w w') : RgIn w' m mv p tb n c ev st rb k arr t := by
  obtain ⟨c1, c2, c3, h1⟩ := h.kn
  exact ⟨hk.at h.hm (fun e => e), h.th.keep hk (fun e => e), ⟨c1, c2, c3, h1.keep hk (fun e => e)⟩, rd_keep h.rd hk (fun _ _ e => e), h.kl, h.nc, h.nt, h.idx, h.len⟩
/-- What begins by an operation's kind. -/
def KindTo (E : PrW n) (w : World) (A : Nat → Prop) (tb o : Nat) (arr : Array Value) (Q : Bool → RX → TC → Prop) (e : Ending) (w' : World) : Prop := ∃ b x' t', e = .returned (.bool b) ∧ Q b x' t' ∧ ThTo E w A tb o arr x' t' w'
set_option maxHeartbeats 4000000 in
theorem rbegin_1 (h : RgIn w m mv E.p tb n c ev st rb k arr t) (hE : E.P.lie w A x) (ha : ¬ A tb) {v : Int} (hop : t.ops[t.idx]? = some (1, v)) {Q : Bool → RX → TC → Prop} (hc : ∀ W arr1, RgIn W m mv E.p tb n c ev st rb k arr1 t.quiet → E.P.lie W A x → Calls Tryz.prog 28 #[pb m, .pointer (some ⟨tb, k * 8, none⟩), .int .i64 k, .int .u64 v] W (KindTo E W A tb (k * 8) arr1 Q)) :
    Calls Tryz.prog 17 #[pb m, .int .i64 k] w fun e w' => e = .returned (.tuple #[]) ∧ ∃ b x' t', Q b x' t' ∧ ThTo E w A tb (k * 8) arr x' (if b = true then t' else t'.refused) w' := by
  have hlt := lt_of_at hop
  obtain ⟨h1, kk, ss⟩ := h.nilled
  obtain ⟨c0, c1, c2, c3, c4, c5, c6, c7⟩ := h.th.cells
  obtain ⟨d0, d1, d2, d3, d4, d5, d6, d7⟩ := h1.th.cells
  obtain ⟨m0, m1, m2, m3, m4, m5⟩ := h.hm.cells
  obtain ⟨n0, n1, n2, n3, n4, n5⟩ := h1.hm.cells
  have f2 := h.th.free (k * 8 + 2)
  have f3 := h.th.free (k * 8 + 3)
  have f4 := h.th.free (k * 8 + 4)
  obtain ⟨b0, of0, c0', hov, hcl⟩ := h1.rd.cell (by show 0 < t.ops.length; omega)
  obtain ⟨u0, u1⟩ := rigCells_at (l := t.ops) hop
  have u0 := hcl _ _ u0
  have u1 := hcl _ _ u1
  simp only [TC.quiet] at d0 d1 hov
  rw [hov] at d0
  have eq : ((t.idx : Int) == (t.ops.length : Int)) = false := by simp; omega
  have hlen := h.len
  have H := hid h
  have HE := hid hE
  have HA := hid ha
  have H1 := hid h1
  have KK := hid kk
  have SS := hid ss
  have HC := hid hc
  have hk := h.kl
  have hnc := h.nc
  simp only [nilW] at d0 d1 u0 u1 n5 H1 KK
  clear h h1 kk ss hE ha d2 d3 d4 d5 d6 d7 m0 m1 m3 m4 m5 n0 n1 n2 n3 n4 hov c0 c1 c5 c6 c7 hc hcl hop
  go_enter Tryz.func17, Tryz.ntmps17
  go_wp2
  generalize hW : ((w.setCell ⟨tb, k * 8 + 2, none⟩ (.pointer none)).setCell ⟨tb, k * 8 + 3, none⟩ (.pointer none)).setCell ⟨tb, k * 8 + 4, none⟩ (.int .u8 0) = W at *
  go_quiet (fail)
  go_wp2
  have d0' : (W.drewN nq).cell? ⟨tb, k * 8, none⟩ = some (.slice (some ⟨b0, of0, none⟩) t.ops.length c0') := d0
  have d1' : (W.drewN nq).cell? ⟨tb, k * 8 + 1, none⟩ = some (.int .i64 t.idx) := d1
  have u0' : (W.drewN nq).cell? ⟨b0, of0 + t.idx * 2, none⟩ = some (.int .u8 1) := u0
  have u1' : (W.drewN nq).cell? ⟨b0, of0 + t.idx * 2 + 1, none⟩ = some (.int .u64 v) := u1
  have n5' : (W.drewN nq).cell? ⟨m, 5, none⟩ = some (.map (some rb)) := n5
  have lb0 : b0 < (W.drewN nq).heap.size := World.block_lt_of_cell? _ _ u0'
  have lm0 : m < (W.drewN nq).heap.size := World.block_lt_of_cell? _ _ n5'
  have ltb : tb < (W.drewN nq).heap.size := World.block_lt_of_cell? _ _ d0'
  have K2 := hid ((Keep.refl Nil W).drewN nq)
  generalize hW2 : W.drewN nq = W2 at *
  clear d0 d1 u0 u1 n5 c2 c3 c4 f2 f3 f4 m2
  go_region
  obtain ⟨W3, hW3⟩ : ∃ W3, W3 = (W2.alloc (.cells #[.int .u8 1, .int .u64 v] 99 (0, 0))).drew := ⟨_, rfl⟩
  rw [← hW3]
  have k3 : Keep Nil W W3 := by rw [hW3]; exact ((K2.out.alloc _).drew)
  have o3 : W3.heap[W2.heap.size]? = some (.cells #[.int .u8 1, .int .u64 v] 99 (0, 0)) := by rw [hW3]; exact heap_alloc_new W2 _
  have i3 := H1.out.quiet k3
  have p0 : W3.cell? ⟨W2.heap.size, 0, none⟩ = some (.int .u8 1) := by rw [cell_of o3]; rfl
  have p1 : W3.cell? ⟨W2.heap.size, 1, none⟩ = some (.int .u64 v) := by rw [cell_of o3]; rfl
  have q5 := i3.hm.cells.2.2.2.2.2
  have hlk : ∀ a, (Instr.lookup 54 (.map (some rb)) (.int .u8 1) false).run Tryz.prog (W3.drewN a) = .ok (.func (.func 28) #[pb m] #[]) (W3.drewN a) := by
    intro a
    obtain ⟨c1, c2, c3, hmp⟩ := (i3.quiet ((Keep.refl Nil W3).drewN a)).kn
    exact run_fget Tryz.underlying54 Tryz.underlying5 hmp 1 (i := 0) rfl
  have K3 := hid k3
  have I3 := hid i3
  clear hW3 o3 k3 i3 d0' d1' u0' u1' n5' lb0 lm0 ltb K2
  generalize W2.heap.size = ob at *
  go_wp2
  go_quiet ((rw [hlk]; exact ⟨rfl, rfl⟩))
  obtain ⟨W4, hW4⟩ : ∃ W4, W4 = W3.drewN nq := ⟨_, rfl⟩
  rw [← hW4]
  have k4 : Keep Nil W3 W4 := by rw [hW4]; exact (Keep.refl Nil W3).drewN nq
  have p1' := k4.cell p1 (fun h => h)
  have K4 := hid (K3.out.trans k4 (fun _ _ h => h))
  have I4 := hid (I3.out.quiet k4)
  clear hW4 k4 hlk p0 p1 q5
  go_wp2_with fail
  have kW : Keep (fun k => k = tb) w W4 := KK.out.trans K4.out (fun _ _ h => h.elim)
  refine (HC.out W4 _ I4.out (E.P.keep HE.out kW (fun k hA e => HA.out (e ▸ hA)))).mono ?_
  have KW := hid kW
  clear kW HC
  rintro e w5 ⟨b, x', t', rfl, hQ, ht⟩
  have HT := hid ht
  obtain ⟨A', arr', -, i5, -⟩ := ht
  have e2 := i5.cell 2 rfl
  have e3 := i5.cell 3 rfl
  have e4 := i5.cell 4 rfl
  have g2 := i5.free (k * 8 + 2)
  have g3 := i5.free (k * 8 + 3)
  have g4 := i5.free (k * 8 + 4)
  clear i5
  cases b with
  | true =>
    go_wp2
    go_end0
    exact ⟨rfl, true, x', t', hQ, by rw [if_pos rfl]; exact ThTo.pre KW.out SS.out HT.out⟩
  | false =>
    go_wp2
    go_end0
    refine ⟨rfl, false, x', t', hQ, ?_⟩
    rw [if_neg (by decide)]
    refine ThTo.pre KW.out SS.out ?_
    obtain ⟨A', arr', q1, q2, q3, q4, q5⟩ := HT.out
    have na : ¬ A' tb := fun e => (q5 tb e).elim (fun e => HA.out e) (fun e => by have := lt_of_block I4.out.th.hb; omega)
    have kk : Keep (fun k => k = tb) w5 (((w5.setCell ⟨tb, k * 8 + 2, none⟩ (.pointer none)).setCell ⟨tb, k * 8 + 3, none⟩ (.pointer none)).setCell ⟨tb, k * 8 + 4, none⟩ (.int .u8 1)) := Keep.setCell (S := fun k => k = tb) (Keep.setCell (S := fun k => k = tb) (Keep.setCell (S := fun k => k = tb) (Keep.refl _ _) (.inl rfl) _) (.inl rfl) _) (.inl rfl) _
    exact ⟨A', _, E.P.keep q1 kk (fun k hA e => na (e ▸ hA)), (((q2.put (j := 2) (t' := { t' with en := none }) (by omega) rfl).put (j := 3) (t' := { t' with en := none, wa := none }) (by omega) rfl).put (j := 4) (t' := t'.refused) (by omega) rfl), q3.trans ((((Same8.refl _ _).put (by omega) _).put (by omega) _).put (by omega) _), q4.trans kk (fun _ _ e => .inr e), q5⟩


set_option maxHeartbeats 4000000 in
theorem rbegin_2 (h : RgIn w m mv E.p tb n c ev st rb k arr t) (hE : E.P.lie w A x) (ha : ¬ A tb) {v : Int} (hop : t.ops[t.idx]? = some (2, v)) {Q : Bool → RX → TC → Prop} (hc : ∀ W arr1, RgIn W m mv E.p tb n c ev st rb k arr1 t.quiet → E.P.lie W A x → Calls Tryz.prog 29 #[pb m, .pointer (some ⟨tb, k * 8, none⟩), .int .i64 k, .int .u64 v] W (KindTo E W A tb (k * 8) arr1 Q)) :
    Calls Tryz.prog 17 #[pb m, .int .i64 k] w fun e w' => e = .returned (.tuple #[]) ∧ ∃ b x' t', Q b x' t' ∧ ThTo E w A tb (k * 8) arr x' (if b = true then t' else t'.refused) w' := by
  have hlt := lt_of_at hop
  obtain ⟨h1, kk, ss⟩ := h.nilled
  obtain ⟨c0, c1, c2, c3, c4, c5, c6, c7⟩ := h.th.cells
  obtain ⟨d0, d1, d2, d3, d4, d5, d6, d7⟩ := h1.th.cells
  obtain ⟨m0, m1, m2, m3, m4, m5⟩ := h.hm.cells
  obtain ⟨n0, n1, n2, n3, n4, n5⟩ := h1.hm.cells
  have f2 := h.th.free (k * 8 + 2)
  have f3 := h.th.free (k * 8 + 3)
  have f4 := h.th.free (k * 8 + 4)
  obtain ⟨b0, of0, c0', hov, hcl⟩ := h1.rd.cell (by show 0 < t.ops.length; omega)
  obtain ⟨u0, u1⟩ := rigCells_at (l := t.ops) hop
  have u0 := hcl _ _ u0
  have u1 := hcl _ _ u1
  simp only [TC.quiet] at d0 d1 hov
  rw [hov] at d0
  have eq : ((t.idx : Int) == (t.ops.length : Int)) = false := by simp; omega
  have hlen := h.len
  have H := hid h
  have HE := hid hE
  have HA := hid ha
  have H1 := hid h1
  have KK := hid kk
  have SS := hid ss
  have HC := hid hc
  have hk := h.kl
  have hnc := h.nc
  simp only [nilW] at d0 d1 u0 u1 n5 H1 KK
  clear h h1 kk ss hE ha d2 d3 d4 d5 d6 d7 m0 m1 m3 m4 m5 n0 n1 n2 n3 n4 hov c0 c1 c5 c6 c7 hc hcl hop
  go_enter Tryz.func17, Tryz.ntmps17
  go_wp2
  generalize hW : ((w.setCell ⟨tb, k * 8 + 2, none⟩ (.pointer none)).setCell ⟨tb, k * 8 + 3, none⟩ (.pointer none)).setCell ⟨tb, k * 8 + 4, none⟩ (.int .u8 0) = W at *
  go_quiet (fail)
  go_wp2
  have d0' : (W.drewN nq).cell? ⟨tb, k * 8, none⟩ = some (.slice (some ⟨b0, of0, none⟩) t.ops.length c0') := d0
  have d1' : (W.drewN nq).cell? ⟨tb, k * 8 + 1, none⟩ = some (.int .i64 t.idx) := d1
  have u0' : (W.drewN nq).cell? ⟨b0, of0 + t.idx * 2, none⟩ = some (.int .u8 2) := u0
  have u1' : (W.drewN nq).cell? ⟨b0, of0 + t.idx * 2 + 1, none⟩ = some (.int .u64 v) := u1
  have n5' : (W.drewN nq).cell? ⟨m, 5, none⟩ = some (.map (some rb)) := n5
  have lb0 : b0 < (W.drewN nq).heap.size := World.block_lt_of_cell? _ _ u0'
  have lm0 : m < (W.drewN nq).heap.size := World.block_lt_of_cell? _ _ n5'
  have ltb : tb < (W.drewN nq).heap.size := World.block_lt_of_cell? _ _ d0'
  have K2 := hid ((Keep.refl Nil W).drewN nq)
  generalize hW2 : W.drewN nq = W2 at *
  clear d0 d1 u0 u1 n5 c2 c3 c4 f2 f3 f4 m2
  go_region
  obtain ⟨W3, hW3⟩ : ∃ W3, W3 = (W2.alloc (.cells #[.int .u8 2, .int .u64 v] 99 (0, 0))).drew := ⟨_, rfl⟩
  rw [← hW3]
  have k3 : Keep Nil W W3 := by rw [hW3]; exact ((K2.out.alloc _).drew)
  have o3 : W3.heap[W2.heap.size]? = some (.cells #[.int .u8 2, .int .u64 v] 99 (0, 0)) := by rw [hW3]; exact heap_alloc_new W2 _
  have i3 := H1.out.quiet k3
  have p0 : W3.cell? ⟨W2.heap.size, 0, none⟩ = some (.int .u8 2) := by rw [cell_of o3]; rfl
  have p1 : W3.cell? ⟨W2.heap.size, 1, none⟩ = some (.int .u64 v) := by rw [cell_of o3]; rfl
  have q5 := i3.hm.cells.2.2.2.2.2
  have hlk : ∀ a, (Instr.lookup 54 (.map (some rb)) (.int .u8 2) false).run Tryz.prog (W3.drewN a) = .ok (.func (.func 29) #[pb m] #[]) (W3.drewN a) := by
    intro a
    obtain ⟨c1, c2, c3, hmp⟩ := (i3.quiet ((Keep.refl Nil W3).drewN a)).kn
    exact run_fget Tryz.underlying54 Tryz.underlying5 hmp 2 (i := 1) rfl
  have K3 := hid k3
  have I3 := hid i3
  clear hW3 o3 k3 i3 d0' d1' u0' u1' n5' lb0 lm0 ltb K2
  generalize W2.heap.size = ob at *
  go_wp2
  go_quiet ((rw [hlk]; exact ⟨rfl, rfl⟩))
  obtain ⟨W4, hW4⟩ : ∃ W4, W4 = W3.drewN nq := ⟨_, rfl⟩
  rw [← hW4]
  have k4 : Keep Nil W3 W4 := by rw [hW4]; exact (Keep.refl Nil W3).drewN nq
  have p1' := k4.cell p1 (fun h => h)
  have K4 := hid (K3.out.trans k4 (fun _ _ h => h))
  have I4 := hid (I3.out.quiet k4)
  clear hW4 k4 hlk p0 p1 q5
  go_wp2_with fail
  have kW : Keep (fun k => k = tb) w W4 := KK.out.trans K4.out (fun _ _ h => h.elim)
  refine (HC.out W4 _ I4.out (E.P.keep HE.out kW (fun k hA e => HA.out (e ▸ hA)))).mono ?_
  have KW := hid kW
  clear kW HC
  rintro e w5 ⟨b, x', t', rfl, hQ, ht⟩
  have HT := hid ht
  obtain ⟨A', arr', -, i5, -⟩ := ht
  have e2 := i5.cell 2 rfl
  have e3 := i5.cell 3 rfl
  have e4 := i5.cell 4 rfl
  have g2 := i5.free (k * 8 + 2)
  have g3 := i5.free (k * 8 + 3)
  have g4 := i5.free (k * 8 + 4)
  clear i5
  cases b with
  | true =>
    go_wp2
    go_end0
    exact ⟨rfl, true, x', t', hQ, by rw [if_pos rfl]; exact ThTo.pre KW.out SS.out HT.out⟩
  | false =>
    go_wp2
    go_end0
    refine ⟨rfl, false, x', t', hQ, ?_⟩
    rw [if_neg (by decide)]
    refine ThTo.pre KW.out SS.out ?_
    obtain ⟨A', arr', q1, q2, q3, q4, q5⟩ := HT.out
    have na : ¬ A' tb := fun e => (q5 tb e).elim (fun e => HA.out e) (fun e => by have := lt_of_block I4.out.th.hb; omega)
    have kk : Keep (fun k => k = tb) w5 (((w5.setCell ⟨tb, k * 8 + 2, none⟩ (.pointer none)).setCell ⟨tb, k * 8 + 3, none⟩ (.pointer none)).setCell ⟨tb, k * 8 + 4, none⟩ (.int .u8 1)) := Keep.setCell (S := fun k => k = tb) (Keep.setCell (S := fun k => k = tb) (Keep.setCell (S := fun k => k = tb) (Keep.refl _ _) (.inl rfl) _) (.inl rfl) _) (.inl rfl) _
    exact ⟨A', _, E.P.keep q1 kk (fun k hA e => na (e ▸ hA)), (((q2.put (j := 2) (t' := { t' with en := none }) (by omega) rfl).put (j := 3) (t' := { t' with en := none, wa := none }) (by omega) rfl).put (j := 4) (t' := t'.refused) (by omega) rfl), q3.trans ((((Same8.refl _ _).put (by omega) _).put (by omega) _).put (by omega) _), q4.trans kk (fun _ _ e => .inr e), q5⟩


set_option maxHeartbeats 4000000 in
theorem rbegin_3 (h : RgIn w m mv E.p tb n c ev st rb k arr t) (hE : E.P.lie w A x) (ha : ¬ A tb) {v : Int} (hop : t.ops[t.idx]? = some (3, v)) {Q : Bool → RX → TC → Prop} (hc : ∀ W arr1, RgIn W m mv E.p tb n c ev st rb k arr1 t.quiet → E.P.lie W A x → Calls Tryz.prog 30 #[pb m, .pointer (some ⟨tb, k * 8, none⟩), .int .i64 k, .int .u64 v] W (KindTo E W A tb (k * 8) arr1 Q)) :
    Calls Tryz.prog 17 #[pb m, .int .i64 k] w fun e w' => e = .returned (.tuple #[]) ∧ ∃ b x' t', Q b x' t' ∧ ThTo E w A tb (k * 8) arr x' (if b = true then t' else t'.refused) w' := by
  have hlt := lt_of_at hop
  obtain ⟨h1, kk, ss⟩ := h.nilled
  obtain ⟨c0, c1, c2, c3, c4, c5, c6, c7⟩ := h.th.cells
  obtain ⟨d0, d1, d2, d3, d4, d5, d6, d7⟩ := h1.th.cells
  obtain ⟨m0, m1, m2, m3, m4, m5⟩ := h.hm.cells
  obtain ⟨n0, n1, n2, n3, n4, n5⟩ := h1.hm.cells
  have f2 := h.th.free (k * 8 + 2)
  have f3 := h.th.free (k * 8 + 3)
  have f4 := h.th.free (k * 8 + 4)
  obtain ⟨b0, of0, c0', hov, hcl⟩ := h1.rd.cell (by show 0 < t.ops.length; omega)
  obtain ⟨u0, u1⟩ := rigCells_at (l := t.ops) hop
  have u0 := hcl _ _ u0
  have u1 := hcl _ _ u1
  simp only [TC.quiet] at d0 d1 hov
  rw [hov] at d0
  have eq : ((t.idx : Int) == (t.ops.length : Int)) = false := by simp; omega
  have hlen := h.len
  have H := hid h
  have HE := hid hE
  have HA := hid ha
  have H1 := hid h1
  have KK := hid kk
  have SS := hid ss
  have HC := hid hc
  have hk := h.kl
  have hnc := h.nc
  simp only [nilW] at d0 d1 u0 u1 n5 H1 KK
  clear h h1 kk ss hE ha d2 d3 d4 d5 d6 d7 m0 m1 m3 m4 m5 n0 n1 n2 n3 n4 hov c0 c1 c5 c6 c7 hc hcl hop
  go_enter Tryz.func17, Tryz.ntmps17
  go_wp2
  generalize hW : ((w.setCell ⟨tb, k * 8 + 2, none⟩ (.pointer none)).setCell ⟨tb, k * 8 + 3, none⟩ (.pointer none)).setCell ⟨tb, k * 8 + 4, none⟩ (.int .u8 0) = W at *
  go_quiet (fail)
  go_wp2
  have d0' : (W.drewN nq).cell? ⟨tb, k * 8, none⟩ = some (.slice (some ⟨b0, of0, none⟩) t.ops.length c0') := d0
  have d1' : (W.drewN nq).cell? ⟨tb, k * 8 + 1, none⟩ = some (.int .i64 t.idx) := d1
  have u0' : (W.drewN nq).cell? ⟨b0, of0 + t.idx * 2, none⟩ = some (.int .u8 3) := u0
  have u1' : (W.drewN nq).cell? ⟨b0, of0 + t.idx * 2 + 1, none⟩ = some (.int .u64 v) := u1
  have n5' : (W.drewN nq).cell? ⟨m, 5, none⟩ = some (.map (some rb)) := n5
  have lb0 : b0 < (W.drewN nq).heap.size := World.block_lt_of_cell? _ _ u0'
  have lm0 : m < (W.drewN nq).heap.size := World.block_lt_of_cell? _ _ n5'
  have ltb : tb < (W.drewN nq).heap.size := World.block_lt_of_cell? _ _ d0'
  have K2 := hid ((Keep.refl Nil W).drewN nq)
  generalize hW2 : W.drewN nq = W2 at *
  clear d0 d1 u0 u1 n5 c2 c3 c4 f2 f3 f4 m2
  go_region
  obtain ⟨W3, hW3⟩ : ∃ W3, W3 = (W2.alloc (.cells #[.int .u8 3, .int .u64 v] 99 (0, 0))).drew := ⟨_, rfl⟩
  rw [← hW3]
  have k3 : Keep Nil W W3 := by rw [hW3]; exact ((K2.out.alloc _).drew)
  have o3 : W3.heap[W2.heap.size]? = some (.cells #[.int .u8 3, .int .u64 v] 99 (0, 0)) := by rw [hW3]; exact heap_alloc_new W2 _
  have i3 := H1.out.quiet k3
  have p0 : W3.cell? ⟨W2.heap.size, 0, none⟩ = some (.int .u8 3) := by rw [cell_of o3]; rfl
  have p1 : W3.cell? ⟨W2.heap.size, 1, none⟩ = some (.int .u64 v) := by rw [cell_of o3]; rfl
  have q5 := i3.hm.cells.2.2.2.2.2
  have hlk : ∀ a, (Instr.lookup 54 (.map (some rb)) (.int .u8 3) false).run Tryz.prog (W3.drewN a) = .ok (.func (.func 30) #[pb m] #[]) (W3.drewN a) := by
    intro a
    obtain ⟨c1, c2, c3, hmp⟩ := (i3.quiet ((Keep.refl Nil W3).drewN a)).kn
    exact run_fget Tryz.underlying54 Tryz.underlying5 hmp 3 (i := 2) rfl
  have K3 := hid k3
  have I3 := hid i3
  clear hW3 o3 k3 i3 d0' d1' u0' u1' n5' lb0 lm0 ltb K2
  generalize W2.heap.size = ob at *
  go_wp2
  go_quiet ((rw [hlk]; exact ⟨rfl, rfl⟩))
  obtain ⟨W4, hW4⟩ : ∃ W4, W4 = W3.drewN nq := ⟨_, rfl⟩
  rw [← hW4]
  have k4 : Keep Nil W3 W4 := by rw [hW4]; exact (Keep.refl Nil W3).drewN nq
  have p1' := k4.cell p1 (fun h => h)
  have K4 := hid (K3.out.trans k4 (fun _ _ h => h))
  have I4 := hid (I3.out.quiet k4)
  clear hW4 k4 hlk p0 p1 q5
  go_wp2_with fail
  have kW : Keep (fun k => k = tb) w W4 := KK.out.trans K4.out (fun _ _ h => h.elim)
  refine (HC.out W4 _ I4.out (E.P.keep HE.out kW (fun k hA e => HA.out (e ▸ hA)))).mono ?_
  have KW := hid kW
  clear kW HC
  rintro e w5 ⟨b, x', t', rfl, hQ, ht⟩
  have HT := hid ht
  obtain ⟨A', arr', -, i5, -⟩ := ht
  have e2 := i5.cell 2 rfl
  have e3 := i5.cell 3 rfl
  have e4 := i5.cell 4 rfl
  have g2 := i5.free (k * 8 + 2)
  have g3 := i5.free (k * 8 + 3)
  have g4 := i5.free (k * 8 + 4)
  clear i5
  cases b with
  | true =>
    go_wp2
    go_end0
    exact ⟨rfl, true, x', t', hQ, by rw [if_pos rfl]; exact ThTo.pre KW.out SS.out HT.out⟩
  | false =>
    go_wp2
    go_end0
    refine ⟨rfl, false, x', t', hQ, ?_⟩
    rw [if_neg (by decide)]
    refine ThTo.pre KW.out SS.out ?_
    obtain ⟨A', arr', q1, q2, q3, q4, q5⟩ := HT.out
    have na : ¬ A' tb := fun e => (q5 tb e).elim (fun e => HA.out e) (fun e => by have := lt_of_block I4.out.th.hb; omega)
    have kk : Keep (fun k => k = tb) w5 (((w5.setCell ⟨tb, k * 8 + 2, none⟩ (.pointer none)).setCell ⟨tb, k * 8 + 3, none⟩ (.pointer none)).setCell ⟨tb, k * 8 + 4, none⟩ (.int .u8 1)) := Keep.setCell (S := fun k => k = tb) (Keep.setCell (S := fun k => k = tb) (Keep.setCell (S := fun k => k = tb) (Keep.refl _ _) (.inl rfl) _) (.inl rfl) _) (.inl rfl) _
    exact ⟨A', _, E.P.keep q1 kk (fun k hA e => na (e ▸ hA)), (((q2.put (j := 2) (t' := { t' with en := none }) (by omega) rfl).put (j := 3) (t' := { t' with en := none, wa := none }) (by omega) rfl).put (j := 4) (t' := t'.refused) (by omega) rfl), q3.trans ((((Same8.refl _ _).put (by omega) _).put (by omega) _).put (by omega) _), q4.trans kk (fun _ _ e => .inr e), q5⟩


set_option maxHeartbeats 4000000 in
theorem rbegin_0 (h : RgIn w m mv E.p tb n c ev st rb k arr t) (hE : E.P.lie w A x) (ha : ¬ A tb) {kd v : Int} (hop : t.ops[t.idx]? = some (kd, v)) (hk1 : kd ≠ 1) (hk2 : kd ≠ 2) (hk3 : kd ≠ 3) :
    Calls Tryz.prog 17 #[pb m, .int .i64 k] w fun e w' => e = .returned (.tuple #[]) ∧ ThTo E w A tb (k * 8) arr x t.refused w' := by
  have hlt := lt_of_at hop
  obtain ⟨h1, kk, ss⟩ := h.nilled
  obtain ⟨c0, c1, c2, c3, c4, c5, c6, c7⟩ := h.th.cells
  obtain ⟨d0, d1, d2, d3, d4, d5, d6, d7⟩ := h1.th.cells
  obtain ⟨m0, m1, m2, m3, m4, m5⟩ := h.hm.cells
  obtain ⟨n0, n1, n2, n3, n4, n5⟩ := h1.hm.cells
  have f2 := h.th.free (k * 8 + 2)
  have f3 := h.th.free (k * 8 + 3)
  have f4 := h.th.free (k * 8 + 4)
  obtain ⟨b0, of0, c0', hov, hcl⟩ := h1.rd.cell (by show 0 < t.ops.length; omega)
  obtain ⟨u0, u1⟩ := rigCells_at (l := t.ops) hop
  have u0 := hcl _ _ u0
  have u1 := hcl _ _ u1
  simp only [TC.quiet] at d0 d1 hov
  rw [hov] at d0
  have eq : ((t.idx : Int) == (t.ops.length : Int)) = false := by simp; omega
  have hlen := h.len
  have H := hid h
  have HE := hid hE
  have HA := hid ha
  have H1 := hid h1
  have KK := hid kk
  have SS := hid ss
  have hk := h.kl
  have hnc := h.nc
  simp only [nilW] at d0 d1 u0 u1 n5 H1 KK
  clear h h1 kk ss hE ha d2 d3 d4 d5 d6 d7 m0 m1 m3 m4 m5 n0 n1 n2 n3 n4 hov c0 c1 c5 c6 c7 hcl hop
  go_enter Tryz.func17, Tryz.ntmps17
  go_wp2
  generalize hW : ((w.setCell ⟨tb, k * 8 + 2, none⟩ (.pointer none)).setCell ⟨tb, k * 8 + 3, none⟩ (.pointer none)).setCell ⟨tb, k * 8 + 4, none⟩ (.int .u8 0) = W at *
  go_quiet (fail)
  go_wp2
  have d0' : (W.drewN nq).cell? ⟨tb, k * 8, none⟩ = some (.slice (some ⟨b0, of0, none⟩) t.ops.length c0') := d0
  have d1' : (W.drewN nq).cell? ⟨tb, k * 8 + 1, none⟩ = some (.int .i64 t.idx) := d1
  have u0' : (W.drewN nq).cell? ⟨b0, of0 + t.idx * 2, none⟩ = some (.int .u8 kd) := u0
  have u1' : (W.drewN nq).cell? ⟨b0, of0 + t.idx * 2 + 1, none⟩ = some (.int .u64 v) := u1
  have n5' : (W.drewN nq).cell? ⟨m, 5, none⟩ = some (.map (some rb)) := n5
  have lb0 : b0 < (W.drewN nq).heap.size := World.block_lt_of_cell? _ _ u0'
  have lm0 : m < (W.drewN nq).heap.size := World.block_lt_of_cell? _ _ n5'
  have ltb : tb < (W.drewN nq).heap.size := World.block_lt_of_cell? _ _ d0'
  have K2 := hid ((Keep.refl Nil W).drewN nq)
  generalize hW2 : W.drewN nq = W2 at *
  clear d0 d1 u0 u1 n5 c2 c3 c4 f2 f3 f4 m2
  go_region
  obtain ⟨W3, hW3⟩ : ∃ W3, W3 = (W2.alloc (.cells #[.int .u8 kd, .int .u64 v] 99 (0, 0))).drew := ⟨_, rfl⟩
  rw [← hW3]
  have k3 : Keep Nil W W3 := by rw [hW3]; exact ((K2.out.alloc _).drew)
  have o3 : W3.heap[W2.heap.size]? = some (.cells #[.int .u8 kd, .int .u64 v] 99 (0, 0)) := by rw [hW3]; exact heap_alloc_new W2 _
  have i3 := H1.out.quiet k3
  have p0 : W3.cell? ⟨W2.heap.size, 0, none⟩ = some (.int .u8 kd) := by rw [cell_of o3]; rfl
  have p1 : W3.cell? ⟨W2.heap.size, 1, none⟩ = some (.int .u64 v) := by rw [cell_of o3]; rfl
  have q5 := i3.hm.cells.2.2.2.2.2
  have hlk : ∀ a, (Instr.lookup 54 (.map (some rb)) (.int .u8 kd) false).run Tryz.prog (W3.drewN a) = .ok .nilFunc (W3.drewN a) := by
    intro a
    obtain ⟨c1, c2, c3, hmp⟩ := (i3.quiet ((Keep.refl Nil W3).drewN a)).kn
    exact run_fmiss Tryz.underlying54 Tryz.underlying5 hmp kd (rk_zero _) (by simp only [rkl, Instr.findNow, Instr.sameNow, show (kd == 1) = false from by simp [hk1], show (kd == 2) = false from by simp [hk2], show (kd == 3) = false from by simp [hk3], if_true])
  have K3 := hid k3
  have I3 := hid i3
  clear hW3 o3 k3 i3 d0' d1' u0' u1' n5' lb0 lm0 ltb K2
  generalize W2.heap.size = ob at *
  go_wp2
  go_quiet ((rw [hlk]; exact ⟨rfl, rfl⟩))
  obtain ⟨W4, hW4⟩ : ∃ W4, W4 = W3.drewN nq := ⟨_, rfl⟩
  rw [← hW4]
  have k4 : Keep Nil W3 W4 := by rw [hW4]; exact (Keep.refl Nil W3).drewN nq
  have p1' := k4.cell p1 (fun h => h)
  have K4 := hid (K3.out.trans k4 (fun _ _ h => h))
  have I4 := hid (I3.out.quiet k4)
  clear hW4 k4 hlk p0 p1 q5
  have i4 := I4.out.th
  have e2 := i4.cell 2 rfl
  have e3 := i4.cell 3 rfl
  have e4 := i4.cell 4 rfl
  have g2 := i4.free (k * 8 + 2)
  have g3 := i4.free (k * 8 + 3)
  have g4 := i4.free (k * 8 + 4)
  clear i4
  go_wp2
  go_end0
  have kW : Keep (fun k => k = tb) w W4 := KK.out.trans K4.out (fun _ _ h => h.elim)
  have kk : Keep (fun k => k = tb) w (((W4.setCell ⟨tb, k * 8 + 2, none⟩ (.pointer none)).setCell ⟨tb, k * 8 + 3, none⟩ (.pointer none)).setCell ⟨tb, k * 8 + 4, none⟩ (.int .u8 1)) := ((kW.setCell (.inl rfl) _).setCell (.inl rfl) _).setCell (.inl rfl) _
  exact ⟨rfl, ThTo.of HE.out HA.out kk (((I4.out.th.put (j := 2) (t' := { t.quiet with en := none }) (by omega) rfl).put (j := 3) (t' := { t.quiet with en := none, wa := none }) (by omega) rfl).put (j := 4) (t' := t.refused) (by omega) rfl) (SS.out.trans ((((Same8.refl _ _).put (by omega) _).put (by omega) _).put (by omega) _))⟩


end
end Go.Proofs.YtldjlcdccnnogaaGreat

/-! A rig's machine with its engine, as one way of lying. -/
set_option linter.unusedVariables false
set_option linter.unusedSimpArgs false
namespace Go.Lf
open Go.RowKit
theorem Lies.To.trans {σ : Type} {P : Lies σ} {w w1 w2 : World} {A A1 : Nat → Prop} {s2 : σ} (k1 : Keep A w w1) (f1 : Foot w A A1) (h : P.To w1 A1 s2 w2) : P.To w A s2 w2 := by
  obtain ⟨A2, a, b, c⟩ := h
  exact ⟨A2, a, k1.trans b (fun k hk hA => (f1 k hA).elim id (fun h => by omega)), Foot.trans f1 k1 c⟩
/-- A rig's state. -/
structure RgS where
  l : List EvR
  st : Nat
  th : Nat → TC
  x : RX
theorem evCells_snoc (l : List EvR) (x : EvR) : evCells (l ++ [x]) = evCells l ++ x.cells := by simp [evCells]
end Go.Lf
namespace Go.Proofs.YtldjlcdccnnogaaGreat
open Go.RowKit Go.Lf
/-- Where the parts of a machine are, that never move. -/
structure RgC where
  m : Nat
  tb : Nat
  rb : Nat
  c : Nat
  mv : Value
  Bk : Nat → Prop
structure RgAt {n : Nat} (E : PrW n) (C : RgC) (w : World) (A0 : Nat → Prop) (arr : Array Value) (ev : Value) (s : RgS) : Prop where
  hm : RgHead w C.m C.mv E.p C.tb n C.c ev s.st C.rb
  hb : w.heap[C.tb]? = some (.cells arr thTy (0, 0))
  tc : ∀ k, k < n → TcAt arr (k * 8) (s.th k)
  kn : RKinds w C.m C.rb
  ops : ∀ k, k < n → Rd w 2 (s.th k).ov (s.th k).ops.length (rigCells (s.th k).ops) ∧ (s.th k).ops.length ≤ 1000 ∧ ∀ j, (s.th k).ov.ownBlock = some j → C.Bk j ∧ j ≠ C.tb ∧ j ≠ C.m ∧ j < w.heap.size
  row : w.ownsRow 0 43 4 ev s.l.length (evCells s.l)
  eng : E.P.lie w A0 s.x
  nc : n ≤ C.c
  bm : C.Bk C.m
  bt : C.Bk C.tb
  br : C.Bk C.rb
  bl : ∀ j, C.Bk j → j < w.heap.size ∧ ¬ A0 j
  be : ∀ j, ev.ownBlock = some j → ¬ C.Bk j ∧ ¬ A0 j
def RigL {n : Nat} (E : PrW n) (C : RgC) : Lies RgS where
  lie w A s := ∃ A0 arr ev, RgAt E C w A0 arr ev s ∧ ∀ k, A k ↔ A0 k ∨ C.Bk k ∨ ev.ownBlock = some k
  keep := by
    rintro w w' A S s ⟨A0, arr, ev, h, hA⟩ hk hn
    have n0 : ∀ k, A0 k → ¬ S k := fun k e => hn k ((hA k).2 (.inl e))
    have n1 : ∀ k, C.Bk k → ¬ S k := fun k e => hn k ((hA k).2 (.inr (.inl e)))
    have n2 : ∀ k, ev.ownBlock = some k → ¬ S k := fun k e => hn k ((hA k).2 (.inr (.inr e)))
    obtain ⟨c1, c2, c3, h1⟩ := h.kn
    have := hk.size
    exact ⟨A0, arr, ev, ⟨hk.at h.hm (n1 _ h.bm), hk.at h.hb (n1 _ h.bt), h.tc, ⟨c1, c2, c3, h1.keep hk (n1 _ h.br)⟩, fun k hk' => by
      obtain ⟨a, b, c⟩ := h.ops k hk'
      exact ⟨rd_keep a hk (fun j hj => n1 j (c j hj).1), b, fun j hj => by obtain ⟨p, q, r, u⟩ := c j hj; exact ⟨p, q, r, by omega⟩⟩, row_keep h.row hk n2, E.P.keep h.eng hk n0, h.nc, h.bm, h.bt, h.br, fun j hj => by obtain ⟨a, b⟩ := h.bl j hj; exact ⟨by omega, b⟩, h.be⟩, hA⟩
  lt := by
    rintro w A s ⟨A0, arr, ev, h, hA⟩ k hk
    rcases (hA k).1 hk with e | e | e
    · exact E.P.lt h.eng k e
    · exact (h.bl k e).1
    · exact (h.row.lt k e).2
section
variable {n : Nat} {E : PrW n} {C : RgC} {w w' : World} {A A0 : Nat → Prop} {arr : Array Value} {ev : Value} {s : RgS} {k : Nat}
theorem RgAt.thAt (h : RgAt E C w A0 arr ev s) (hk : k < n) : ThAt w C.tb (k * 8) arr (s.th k) := ⟨h.hb, h.tc k hk⟩
theorem RgAt.isIn (h : RgAt E C w A0 arr ev s) (hk : k < n) (hi : (s.th k).idx ≤ (s.th k).ops.length) : RgIn w C.m C.mv E.p C.tb n C.c ev s.st C.rb k arr (s.th k) := by
  obtain ⟨a, b, c⟩ := h.ops k hk
  exact ⟨h.hm, h.thAt hk, h.kn, a, hk, h.nc, fun j hj => (c j hj).2.1, hi, b⟩
/-- A thread and the engine have turned. -/
theorem RgAt.th_to (h : RgAt E C w A0 arr ev s) (hA : ∀ k, A k ↔ A0 k ∨ C.Bk k ∨ ev.ownBlock = some k) (hk : k < n) {x' : RX} {t' : TC} (ht : ThTo E w A0 C.tb (k * 8) arr x' t' w') (ho : t'.ov = (s.th k).ov) (hop : t'.ops = (s.th k).ops) :
    (RigL E C).To w A ⟨s.l, s.st, upd s.th k t', x'⟩ w' := by
  obtain ⟨A1, arr', q1, q2, q3, q4, q5⟩ := ht
  have sz := q4.size
  have ntm : C.tb ≠ C.m := rtype_ne h.hb h.hm (by decide)
  have ntr : C.tb ≠ C.rb := by
    intro e
    obtain ⟨c1, c2, c3, cl, h1⟩ := h.kn
    have := h.hb
    rw [e, h1] at this
    cases this
  have nn : ∀ j, C.Bk j → j ≠ C.tb → ¬ (A0 j ∨ j = C.tb) := fun j hj hne e => e.elim (h.bl j hj).2 hne
  have ne : ∀ j, ev.ownBlock = some j → ¬ (A0 j ∨ j = C.tb) := fun j hj e => e.elim (h.be j hj).2 (fun e => (h.be j hj).1 (e ▸ h.bt))
  have le : ∀ j, ev.ownBlock = some j → j < w.heap.size := fun j hj => (h.row.lt j hj).2
  obtain ⟨c1, c2, c3, h1⟩ := h.kn
  refine ⟨fun j => A1 j ∨ C.Bk j ∨ ev.ownBlock = some j, ⟨A1, arr', ev, ⟨q4.at h.hm (nn _ h.bm ntm.symm), q2.hb, fun j hj => ?_, ⟨c1, c2, c3, h1.keep q4 (nn _ h.br ntr.symm)⟩, fun j hj => ?_, row_keep h.row q4 ne, q1, h.nc, h.bm, h.bt, h.br, fun j hj => ?_, fun j hj => ⟨(h.be j hj).1, fun e => ?_⟩⟩, fun _ => Iff.rfl⟩, q4.mono (fun j _ e => ?_), fun j hj => ?_⟩
  · by_cases e : j = k
    · subst e
      show TcAt arr' _ (upd s.th j t' j)
      rw [upd_self]; exact q2.tc
    · show TcAt arr' _ (upd s.th k t' j)
      rw [upd_ne _ _ e]
      intro i u hu
      have hi : i < 8 := (List.getElem?_eq_some_iff.1 hu).1
      rw [q3 _ (by omega)]
      exact h.tc j hj i u hu
  · have key : (upd s.th k t' j).ov = (s.th j).ov ∧ (upd s.th k t' j).ops = (s.th j).ops := by
      by_cases e : j = k
      · subst e; rw [upd_self]; exact ⟨ho, hop⟩
      · rw [upd_ne _ _ e]; exact ⟨rfl, rfl⟩
    obtain ⟨a, b, c⟩ := h.ops j hj
    show Rd w' 2 (upd s.th k t' j).ov (upd s.th k t' j).ops.length (rigCells (upd s.th k t' j).ops) ∧ (upd s.th k t' j).ops.length ≤ 1000 ∧ _
    rw [key.1, key.2]
    exact ⟨rd_keep a q4 (fun i hi => nn i (c i hi).1 (c i hi).2.1), b, fun i hi => by
      obtain ⟨p, q, r, u⟩ := c i hi; exact ⟨p, q, r, by omega⟩⟩
  · obtain ⟨a, b⟩ := h.bl j hj
    exact ⟨by omega, fun e => (q5 j e).elim b (fun e => by omega)⟩
  · exact (q5 j e).elim (h.be j hj).2 (fun e => by have := le j hj; omega)
  · rw [hA]
    rcases e with e | e
    · exact .inl e
    · subst e; exact .inr (.inl h.bt)
  · rw [hA]
    rcases hj with e | e
    · exact (q5 j e).elim (fun e => .inl (.inl e)) .inr
    · exact .inl (.inr e)
/-- The engine alone has turned. -/
theorem RgAt.eng_to (h : RgAt E C w A0 arr ev s) (hA : ∀ k, A k ↔ A0 k ∨ C.Bk k ∨ ev.ownBlock = some k) (hk : k < n) {x' : RX} (ht : E.P.To w A0 x' w') : (RigL E C).To w A ⟨s.l, s.st, s.th, x'⟩ w' := by
  obtain ⟨A1, a, b, c⟩ := ht
  have := h.th_to hA hk (x' := x') (t' := s.th k) ⟨A1, arr, a, (h.thAt hk).keep b (h.bl _ h.bt).2, Same8.refl _ _, b.mono (fun _ _ e => .inl e), c⟩ rfl rfl
  have e : upd s.th k (s.th k) = s.th := by
    funext i
    by_cases e : i = k
    · subst e; exact upd_self _ _ _
    · exact upd_ne _ _ e
  rw [e] at this
  exact this
/-- A cell of a thread is set. -/
theorem RgAt.put_to (h : RgAt E C w A0 arr ev s) (hA : ∀ k, A k ↔ A0 k ∨ C.Bk k ∨ ev.ownBlock = some k) (hk : k < n) {j : Nat} (hj : j < 8) {t' : TC} {u : Value} (hc : t'.cells = (s.th k).cells.set j u) (ho : t'.ov = (s.th k).ov) (hop : t'.ops = (s.th k).ops) :
    (RigL E C).To w A ⟨s.l, s.st, upd s.th k t', s.x⟩ (w.setCell ⟨C.tb, k * 8 + j, none⟩ u) :=
  h.th_to hA hk (ThTo.of h.eng (h.bl _ h.bt).2 (Keep.setCell (S := fun k => k = C.tb) (Keep.refl _ _) (.inl rfl) _) ((h.thAt hk).put hj hc) ((Same8.refl _ _).put hj _)) ho hop
/-- An event is noted. -/
theorem rnoteL (h : RgAt E C w A0 arr ev s) (hA : ∀ k, A k ↔ A0 k ∨ C.Bk k ∨ ev.ownBlock = some k) (hl : s.l.length < 1000000) (j kd v : Int) :
    Calls Tryz.prog 37 #[pb C.m, .int .i64 j, .int .u8 kd, .int .u64 v] w fun e w' => e = .returned (.tuple #[]) ∧ (RigL E C).To w A ⟨s.l ++ [⟨s.st, j, kd, v⟩], s.st, s.th, s.x⟩ w' := by
  obtain ⟨ea, ec, rfl⟩ : ∃ ea ec, ev = .slice ea s.l.length ec := row_slice h.row
  refine (rnote_ok h.hm h.row (fun e => (h.be _ e).1 h.bm) hl j kd v).mono ?_
  rintro e w' ⟨rfl, ea', ec', q1, q2, q3, q4⟩
  refine ⟨rfl, ?_⟩
  have sz := q4.size
  have ntm : C.tb ≠ C.m := rtype_ne h.hb h.hm (by decide)
  have nrm : C.m ≠ C.rb := by
    intro e
    obtain ⟨c1, c2, c3, cl, h1⟩ := h.kn
    have := h.hm
    rw [RgHead, e, h1] at this
    cases this
  have nn : ∀ j, C.Bk j → j ≠ C.m → ¬ (j = C.m ∨ (Value.slice ea s.l.length ec).ownBlock = some j) := fun j hj hne e => e.elim hne (fun e => (h.be j e).1 hj)
  obtain ⟨c1, c2, c3, h1⟩ := h.kn
  refine ⟨fun j => A0 j ∨ C.Bk j ∨ (Value.slice ea' (s.l.length + 1) ec').ownBlock = some j, ⟨A0, arr, .slice ea' (s.l.length + 1) ec', ⟨q1, q4.at h.hb (nn _ h.bt ntm), h.tc, ⟨c1, c2, c3, h1.keep q4 (nn _ h.br nrm.symm)⟩, fun j hj => ?_, ?_, E.P.keep h.eng q4 (fun j hj e => ?_), h.nc, h.bm, h.bt, h.br, fun j hj => ?_, fun j hj => ?_⟩, fun _ => Iff.rfl⟩, q4.mono (fun j _ e => ?_), fun j hj => ?_⟩
  · obtain ⟨a, b, c⟩ := h.ops j hj
    exact ⟨rd_keep a q4 (fun i hi => nn i (c i hi).1 (c i hi).2.2.1), b, fun i hi => by obtain ⟨p, q, r, u⟩ := c i hi; exact ⟨p, q, r, by omega⟩⟩
  · rw [List.length_append, List.length_singleton, evCells_snoc]; exact q2
  · rcases e with e | e
    · subst e; exact (h.bl _ h.bm).2 hj
    · exact (h.be j e).2 hj
  · obtain ⟨a, b⟩ := h.bl j hj; exact ⟨by omega, b⟩
  · rcases q3 j hj with e | e
    · exact h.be j e
    · exact ⟨fun hb => by have := (h.bl j hb).1; omega, fun ha => by have := E.P.lt h.eng j ha; omega⟩
  · rw [hA]
    rcases e with e | e
    · subst e; exact .inr (.inl h.bm)
    · exact .inr (.inr e)
  · rw [hA]
    rcases hj with e | e | e
    · exact .inl (.inl e)
    · exact .inl (.inr (.inl e))
    · exact (q3 j e).elim (fun e => .inl (.inr (.inr e))) .inr
/-- The count of steps is set. -/
theorem RgAt.step_to (h : RgAt E C w A0 arr ev s) (hA : ∀ k, A k ↔ A0 k ∨ C.Bk k ∨ ev.ownBlock = some k) {W : World} {st' : Nat} (hw : W = w.setCell ⟨C.m, 4, none⟩ (.int .i64 st')) : (RigL E C).To w A ⟨s.l, st', s.th, s.x⟩ W := by
  subst hw
  have ntm : C.tb ≠ C.m := rtype_ne h.hb h.hm (by decide)
  have nrm : C.m ≠ C.rb := by
    intro e
    obtain ⟨c1, c2, c3, cl, h1⟩ := h.kn
    have := h.hm
    rw [RgHead, e, h1] at this
    cases this
  have kk : Keep (fun k => k = C.m) w (w.setCell ⟨C.m, 4, none⟩ (.int .i64 st')) := Keep.setCell (S := fun k => k = C.m) (Keep.refl _ _) (.inl rfl) _
  have sz := kk.size
  obtain ⟨c1, c2, c3, h1⟩ := h.kn
  refine ⟨A, ⟨A0, arr, ev, ⟨?_, kk.at h.hb ntm, h.tc, ⟨c1, c2, c3, h1.keep kk nrm.symm⟩, fun j hj => ?_, row_keep h.row kk (fun j hj e => (h.be j hj).1 (e ▸ h.bm)), E.P.keep h.eng kk (fun j hj e => (h.bl _ h.bm).2 (e ▸ hj)), h.nc, h.bm, h.bt, h.br, fun j hj => ?_, h.be⟩, hA⟩, kk.mono (fun j _ e => by subst e; exact (hA _).2 (.inr (.inl h.bm))), fun _ h => .inl h⟩
  · unfold RgHead; rw [set_same h.hm]; rfl
  · obtain ⟨a, b, c⟩ := h.ops j hj
    exact ⟨rd_keep a kk (fun i hi => (c i hi).2.2.1), b, fun i hi => by obtain ⟨p, q, r, u⟩ := c i hi; exact ⟨p, q, r, by omega⟩⟩
  · obtain ⟨a, b⟩ := h.bl j hj; exact ⟨by omega, b⟩
end
end Go.Proofs.YtldjlcdccnnogaaGreat

/-! A rig begins an operation: over the whole machine. -/
set_option linter.unusedVariables false
set_option linter.unusedSimpArgs false
namespace Go.Lf
/-- A thread's cells fit what the engine says of it. -/
inductive TOk (t : TC) (x : RX) (k : Nat) : Prop where
  | rest (h1 : t.en = none) (h2 : t.wa = none) (hp : t.pc = 0 ∨ (t.pc = 1 ∧ t.idx < t.ops.length) ∨ ((t.pc = 13 ∨ t.pc = 16) ∧ t.ins = true ∧ t.idx < t.ops.length)) (hT : x.T k = if t.ins = true then .inn t.v else .idle) (hv : t.ins = true → 0 ≤ t.v ∧ t.v < 64)
  | en (b : Nat) (h1 : t.en = some b) (hi : t.ins = false) (hb : x.bx k = b) (hT : x.T k = .en t.v) (v0 : 0 ≤ t.v) (v1 : t.v < 64) (hl : t.idx < t.ops.length)
  | wa (b : Nat) (set : Int) (h1 : t.en = none) (h2 : t.wa = some b) (hi : t.ins = false) (hb : x.bx k = b) (ho : t.ops[t.idx]? = some (3, set)) (s0 : 0 < set) (s1 : set < 18446744073709551616) (hT : x.T k = .wa set t.bg)
/-- Operations are made of a byte and a word. -/
def OpsWf (l : List (Int × Int)) : Prop := ∀ p ∈ l, 0 ≤ p.1 ∧ p.1 < 256 ∧ 0 ≤ p.2 ∧ p.2 < 18446744073709551616
/-- Between two operations: nothing is performed. -/
structure TIdle (t : TC) (x : RX) (k : Nat) : Prop where
  hT : x.T k = if t.ins = true then .inn t.v else .idle
  hv : t.ins = true → 0 ≤ t.v ∧ t.v < 64
  idx : t.idx ≤ t.ops.length
/-- What beginning does to the engine. -/
structure BegTo (bnd : Int → Nat) (x : RX) (k : Nat) (x' : RX) : Prop where
  K : x'.K ≤ x.K + 1
  M : x'.M = x.M
  ne : ∀ j, j ≠ k → x'.T j = x.T j ∧ x'.R j = x.R j ∧ x'.bx j = x.bx j
  tk : x'.T k = x.T k ∨ (x.T k = .idle ∧ ((∃ v, x'.T k = .en v) ∨ ∃ set, x'.T k = .wa set false ∧ x'.R k ≤ bnd set))
theorem BegTo.same (bnd : Int → Nat) (x : RX) (k : Nat) : BegTo bnd x k x := ⟨by omega, rfl, fun _ _ => ⟨rfl, rfl, rfl⟩, .inl rfl⟩
end Go.Lf
namespace Go.Proofs.YtldjlcdccnnogaaGreat
open Go.RowKit Go.Lf
section
variable {n : Nat} {E : PrW n} {C : RgC} {w w' : World} {A A0 : Nat → Prop} {arr : Array Value} {ev : Value} {s : RgS} {k : Nat}
def BegL (E : PrW n) (C : RgC) (w : World) (A : Nat → Prop) (s : RgS) (k : Nat) (e : Ending) (w' : World) : Prop :=
  e = .returned (.tuple #[]) ∧ ∃ x' t', BegTo E.bnd s.x k x' ∧ TOk t' x' k ∧ t'.ov = (s.th k).ov ∧ t'.ops = (s.th k).ops ∧ t'.idx = (s.th k).idx ∧ (RigL E C).To w A ⟨s.l, s.st, upd s.th k t', x'⟩ w'
theorem rbeginL (h : RgAt E C w A0 arr ev s) (hA : ∀ k, A k ↔ A0 k ∨ C.Bk k ∨ ev.ownBlock = some k) (hk : k < n) (hK : s.x.K ≤ 900) (hi : TIdle (s.th k) s.x k) (hw : OpsWf (s.th k).ops) :
    Calls Tryz.prog 17 #[pb C.m, .int .i64 k] w (BegL E C w A s k) := by
  have hin := h.isIn hk hi.idx
  have ha := (h.bl _ h.bt).2
  have quiet : TOk (s.th k).quiet s.x k := .rest rfl rfl (.inl rfl) hi.hT hi.hv
  by_cases hl : (s.th k).idx = (s.th k).ops.length
  · refine (rbegin_fin hin h.eng ha hl).mono ?_
    rintro e w' ⟨rfl, ht⟩
    exact ⟨rfl, _, _, BegTo.same _ _ _, quiet, rfl, rfl, rfl, h.th_to hA hk ht rfl rfl⟩
  · have hlt : (s.th k).idx < (s.th k).ops.length := by have := hi.idx; omega
    obtain ⟨⟨kd, v⟩, hop⟩ : ∃ p, (s.th k).ops[(s.th k).idx]? = some p := ⟨_, List.getElem?_eq_getElem hlt⟩
    obtain ⟨w0, w1, w2, w3⟩ := hw _ (List.mem_of_getElem? hop)
    simp only at w0 w1 w2 w3
    have refu : ∀ t' : TC, t' = (s.th k).quiet ∨ t' = s.th k → TOk t'.refused s.x k := by
      rintro t' (rfl | rfl)
      · exact .rest rfl rfl (.inr (.inl ⟨rfl, hlt⟩)) hi.hT hi.hv
      · exact .rest rfl rfl (.inr (.inl ⟨rfl, hlt⟩)) hi.hT hi.hv
    have no : ∀ {W : World} {arr1 : Array Value}, RgIn W C.m C.mv E.p C.tb n C.c ev s.st C.rb k arr1 (s.th k).quiet → E.P.lie W A0 s.x → ThTo E W A0 C.tb (k * 8) arr1 s.x (s.th k).quiet W := fun hI hE => ThTo.of hE ha (Keep.refl _ _) hI.th (Same8.refl _ _)
    by_cases k1 : kd = 1
    · subst k1
      refine (rbegin_1 hin h.eng ha hop (Q := fun b x' t' => (b = false ∧ x' = s.x ∧ t' = (s.th k).quiet) ∨ (b = true ∧ v < 64 ∧ (s.th k).ins = false ∧ ∃ bb, x' = s.x.enter k v bb ∧ t' = { (s.th k).quiet with en := some bb, v := v })) ?_).mono ?_
      · intro W arr1 hI hE
        by_cases hc : 64 ≤ v ∨ (s.th k).ins = true
        · refine (rg_enter_no (k := k) hI.th v hc).mono ?_
          rintro e w' ⟨rfl, rfl⟩
          exact ⟨false, _, _, rfl, .inl ⟨rfl, rfl, rfl⟩, no hI hE⟩
        · have hins : (s.th k).ins = false := by
            cases hq : (s.th k).ins with
            | false => rfl
            | true => exact absurd (.inr hq) hc
          refine (rg_enter_ok hI.hm hI.th hE ha hK hk (by rw [hi.hT, hins]; rfl) w2 (by omega) hins).mono ?_
          rintro e w' ⟨rfl, b, ht⟩
          exact ⟨true, _, _, rfl, .inr ⟨rfl, by omega, hins, b, rfl, rfl⟩, ht⟩
      · rintro e w' ⟨rfl, b, x', t', hq, ht⟩
        rcases hq with ⟨rfl, rfl, rfl⟩ | ⟨rfl, hv, hins, bb, rfl, rfl⟩
        · exact ⟨rfl, _, _, BegTo.same _ _ _, refu _ (.inl rfl), rfl, rfl, rfl, h.th_to hA hk (by simpa using ht) rfl rfl⟩
        · refine ⟨rfl, s.x.enter k v bb, { (s.th k).quiet with en := some bb, v := v }, ⟨Nat.le_refl _, rfl, fun j e => ⟨upd_ne _ _ e, rfl, upd_ne _ _ e⟩, .inr ⟨by rw [hi.hT, hins]; rfl, .inl ⟨v, upd_self _ _ _⟩⟩⟩, ?_, rfl, rfl, rfl, h.th_to hA hk (by simpa using ht) rfl rfl⟩
          exact .en bb rfl hins (upd_self _ _ _) (upd_self _ _ _) w2 hv hlt
    · by_cases k2 : kd = 2
      · subst k2
        refine (rbegin_2 hin h.eng ha hop (Q := fun b x' t' => (b = false ∧ x' = s.x ∧ t' = (s.th k).quiet) ∨ (b = true ∧ (s.th k).ins = true ∧ x' = s.x ∧ t' = { (s.th k).quiet with pc := if E.kind = 3 then 16 else 13 })) ?_).mono ?_
        · intro W arr1 hI hE
          by_cases hc : v ≠ 0 ∨ (s.th k).ins = false
          · refine (rg_exit_no (k := k) hI.th v hc).mono ?_
            rintro e w' ⟨rfl, rfl⟩
            exact ⟨false, _, _, rfl, .inl ⟨rfl, rfl, rfl⟩, no hI hE⟩
          · have hins : (s.th k).ins = true := by
              cases hq : (s.th k).ins with
              | true => rfl
              | false => exact absurd (.inr hq) hc
            have hv : v = 0 := Classical.byContradiction fun e => hc (.inl e)
            subst hv
            refine (rg_exit_ok (k := k) hI.hm hI.th hE ha hins).mono ?_
            rintro e w' ⟨rfl, ht⟩
            exact ⟨true, _, _, rfl, .inr ⟨rfl, hins, rfl, rfl⟩, ht⟩
        · rintro e w' ⟨rfl, b, x', t', hq, ht⟩
          rcases hq with ⟨rfl, rfl, rfl⟩ | ⟨rfl, hins, rfl, rfl⟩
          · exact ⟨rfl, _, _, BegTo.same _ _ _, refu _ (.inl rfl), rfl, rfl, rfl, h.th_to hA hk (by simpa using ht) rfl rfl⟩
          · refine ⟨rfl, s.x, { (s.th k).quiet with pc := if E.kind = 3 then 16 else 13 }, BegTo.same _ _ _, ?_, rfl, rfl, rfl, h.th_to hA hk (by simpa using ht) rfl rfl⟩
            refine .rest rfl rfl (.inr (.inr ⟨?_, hins, hlt⟩)) hi.hT hi.hv
            show (if E.kind = 3 then (16 : Int) else 13) = 13 ∨ (if E.kind = 3 then (16 : Int) else 13) = 16
            split
            · exact .inr rfl
            · exact .inl rfl
      · by_cases k3 : kd = 3
        · subst k3
          refine (rbegin_3 hin h.eng ha hop (Q := fun b x' t' => (b = false ∧ x' = s.x ∧ t' = (s.th k).quiet) ∨ (b = true ∧ 0 < v ∧ (s.th k).ins = false ∧ ∃ bb, ∃ r ≤ E.bnd v, x' = s.x.wait k v r bb ∧ t' = { (s.th k).quiet with wa := some bb, bg := false })) ?_).mono ?_
          · intro W arr1 hI hE
            by_cases hc : v = 0 ∨ (s.th k).ins = true
            · refine (rg_wait_no (k := k) hI.th v hc).mono ?_
              rintro e w' ⟨rfl, rfl⟩
              exact ⟨false, _, _, rfl, .inl ⟨rfl, rfl, rfl⟩, no hI hE⟩
            · have hins : (s.th k).ins = false := by
                cases hq : (s.th k).ins with
                | false => rfl
                | true => exact absurd (.inr hq) hc
              have hv : 0 < v := by
                have : v ≠ 0 := fun e => hc (.inl e)
                omega
              refine (rg_wait_ok hI.hm hI.th hE ha hK hk (by rw [hi.hT, hins]; rfl) hv w3 hins).mono ?_
              rintro e w' ⟨rfl, b, r, hr, ht⟩
              exact ⟨true, _, _, rfl, .inr ⟨rfl, hv, hins, b, r, hr, rfl, rfl⟩, ht⟩
          · rintro e w' ⟨rfl, b, x', t', hq, ht⟩
            rcases hq with ⟨rfl, rfl, rfl⟩ | ⟨rfl, hv, hins, bb, r, hr, rfl, rfl⟩
            · exact ⟨rfl, _, _, BegTo.same _ _ _, refu _ (.inl rfl), rfl, rfl, rfl, h.th_to hA hk (by simpa using ht) rfl rfl⟩
            · refine ⟨rfl, s.x.wait k v r bb, { (s.th k).quiet with wa := some bb, bg := false }, ⟨Nat.le_refl _, rfl, fun j e => ⟨upd_ne _ _ e, upd_ne _ _ e, upd_ne _ _ e⟩, .inr ⟨by rw [hi.hT, hins]; rfl, .inr ⟨v, upd_self _ _ _, by show upd s.x.R k r k ≤ _; rw [upd_self]; exact hr⟩⟩⟩, ?_, rfl, rfl, rfl, h.th_to hA hk (by simpa using ht) rfl rfl⟩
              exact .wa bb v rfl rfl hins (upd_self _ _ _) hop hv w3 (upd_self _ _ _)
        · refine (rbegin_0 hin h.eng ha hop k1 k2 k3).mono ?_
          rintro e w' ⟨rfl, ht⟩
          exact ⟨rfl, _, _, BegTo.same _ _ _, refu _ (.inr rfl), rfl, rfl, rfl, h.th_to hA hk ht rfl rfl⟩
end
end Go.Proofs.YtldjlcdccnnogaaGreat

/-! A step of a rig's thread. -/
set_option linter.unusedVariables false
set_option linter.unusedSimpArgs false
namespace Go.Proofs.YtldjlcdccnnogaaGreat
open Go.RowKit Go.Lf
section
variable {n : Nat} {E : PrW n} {C : RgC} {w w' : World} {A A0 : Nat → Prop} {arr : Array Value} {ev : Value} {s : RgS} {k : Nat}
theorem upd_upd {α : Type} (f : Nat → α) (k : Nat) (a b : α) : upd (upd f k a) k b = upd f k b := by
  funext i
  by_cases e : i = k
  · subst e; rw [upd_self, upd_self]
  · rw [upd_ne _ _ e, upd_ne _ _ e, upd_ne _ _ e]
theorem upd_get {α : Type} (f : Nat → α) (k : Nat) : upd f k (f k) = f := by
  funext i
  by_cases e : i = k
  · subst e; exact upd_self _ _ _
  · exact upd_ne _ _ e
set_option maxHeartbeats 1000000 in
theorem rstep_ref (h : RgAt E C w A0 arr ev s) (hk : k < n) (h1 : (s.th k).en = none) (h2 : (s.th k).wa = none) (hp : (s.th k).pc = 1) :
    Calls Tryz.prog 16 #[pb C.m, .int .i64 k] w fun e w' => e = .returned (.tuple #[.int .u8 1, .bool true]) ∧ w = w' := by
  obtain ⟨c0, c1, c2, c3, c4, c5, c6, c7⟩ := (h.thAt hk).cells
  obtain ⟨m0, m1, m2, m3, m4, m5⟩ := h.hm.cells
  rw [h1] at c2
  rw [h2] at c3
  rw [hp] at c4
  simp only [pbO] at c2 c3
  have hnc := h.nc
  clear h h1 h2 hp c0 c1 c5 c6 c7 m0 m1 m3 m4 m5
  go_enter Tryz.func16, Tryz.ntmps16
  go_wp2
  go_ret2
  exact ⟨rfl, rfl⟩
set_option maxHeartbeats 4000000 in
theorem rstep_en (h : RgAt E C w A0 arr ev s) (hA : ∀ k, A k ↔ A0 k ∨ C.Bk k ∨ ev.ownBlock = some k) (hk : k < n) (hK : s.x.K ≤ 900) (hl : s.l.length < 1000000) {b : Nat} (h1 : (s.th k).en = some b) (hb : s.x.bx k = b) (hT : s.x.T k = .en (s.th k).v) :
    Calls Tryz.prog 16 #[pb C.m, .int .i64 k] w fun e w' => ∃ pc d, e = .returned (.tuple #[.int .u8 pc, .bool d]) ∧ pc ≠ 0 ∧ pc ≠ 1 ∧
      (RigL E C).To w A ⟨if d = true then s.l ++ [⟨s.st, k, 1, (s.th k).v⟩] else s.l, s.st, upd s.th k { s.th k with ins := if d = true then true else (s.th k).ins }, s.x.estep k (s.th k).v d⟩ w' := by
  obtain ⟨c0, c1, c2, c3, c4, c5, c6, c7⟩ := (h.thAt hk).cells
  obtain ⟨m0, m1, m2, m3, m4, m5⟩ := h.hm.cells
  rw [h1] at c2
  simp only [pbO] at c2
  have hnc := h.nc
  have HC := hid (E.estep k _ h.eng hK hk hT)
  rw [hb] at HC
  have H := hid h
  have HA := hid hA
  clear h hA h1 c0 c1 c3 c4 c5 c6 c7 m0 m1 m3 m4 m5
  go_enter Tryz.func16, Tryz.ntmps16
  go_wp2_with fail
  refine HC.out.mono ?_
  rintro e w1 ⟨pc, d, rfl, p0, p1, ht⟩
  obtain ⟨A1, ⟨B1, arr1, ev1, g1, gA1⟩, k1, f1⟩ := H.out.eng_to HA.out hk ht
  have HK1 := hid k1
  have HF1 := hid f1
  clear ht HC c2 m2 k1 f1
  cases d with
  | false =>
    have HG1 := hid g1
    have HGA1 := hid gA1
    clear g1 gA1
    go_wp2
    go_ret2
    refine ⟨pc, false, rfl, p0, p1, A1, ?_, HK1.out, HF1.out⟩
    simp only [Bool.false_eq_true, if_false]
    rw [show ({ s.th k with ins := (s.th k).ins } : TC) = s.th k from rfl, upd_get]
    exact ⟨B1, arr1, ev1, HG1.out, HGA1.out⟩
  | true =>
    have c6' := (g1.thAt hk).cell 6 rfl
    have f6' := (g1.thAt hk).free (k * 8 + 6)
    obtain ⟨A2, ⟨B2, arr2, ev2, g2, gA2⟩, k2, f2⟩ := g1.put_to gA1 hk (j := 6) (t' := { s.th k with ins := true }) (u := .bool true) (by omega) rfl rfl rfl
    have c7' := (g2.thAt hk).cell 7 (u := .int .u64 (s.th k).v) (by show (upd s.th k _ k).cells[7]? = _; rw [upd_self]; rfl)
    have HN := hid (rnoteL g2 gA2 hl (k : Int) 1 (s.th k).v)
    have HK2 := hid k2
    have HF2 := hid f2
    clear g1 gA1 g2 gA2 k2 f2
    go_wp2_with fail
    refine HN.out.mono ?_
    rintro e w3 ⟨rfl, ht⟩
    clear HN c6' f6' c7'
    go_wp2
    go_ret2
    exact ⟨pc, true, rfl, p0, p1, Lies.To.trans HK1.out HF1.out (Lies.To.trans HK2.out HF2.out ht)⟩
set_option maxHeartbeats 4000000 in
theorem rstep_exit (h : RgAt E C w A0 arr ev s) (hA : ∀ k, A k ↔ A0 k ∨ C.Bk k ∨ ev.ownBlock = some k) (hk : k < n) (hK : s.x.K ≤ 900) (hl : s.l.length < 1000000) (h1 : (s.th k).en = none) (h2 : (s.th k).wa = none) (hp : (s.th k).pc = 13 ∨ (s.th k).pc = 16) (hT : s.x.T k = .inn (s.th k).v) :
    Calls Tryz.prog 16 #[pb C.m, .int .i64 k] w fun e w' => ∃ pc, e = .returned (.tuple #[.int .u8 pc, .bool true]) ∧ pc ≠ 0 ∧ pc ≠ 1 ∧
      (RigL E C).To w A ⟨s.l ++ [⟨s.st, k, 2, (s.th k).v⟩], s.st, upd s.th k { s.th k with ins := false }, s.x.exit k⟩ w' := by
  obtain ⟨c0, c1, c2, c3, c4, c5, c6, c7⟩ := (h.thAt hk).cells
  obtain ⟨m0, m1, m2, m3, m4, m5⟩ := h.hm.cells
  rw [h1] at c2
  rw [h2] at c3
  simp only [pbO] at c2 c3
  have d1 : ((s.th k).pc == 1) = false := by simp; omega
  have hnc := h.nc
  have HC := hid (E.exit k _ h.eng hK hk hT)
  have H := hid h
  have HA := hid hA
  clear h hA h1 h2 c0 c1 c5 c6 c7 m0 m3 m4 m5
  go_enter Tryz.func16, Tryz.ntmps16
  go_wp2_with fail
  refine HC.out.mono ?_
  rintro e w1 ⟨pc, e0, rfl, p0, p1, ht⟩
  obtain ⟨A1, ⟨B1, arr1, ev1, g1, gA1⟩, k1, f1⟩ := H.out.eng_to HA.out hk ht
  have HK1 := hid k1
  have HF1 := hid f1
  clear ht HC c2 c3 c4 m2 m1 k1 f1 d1
  have c6' := (g1.thAt hk).cell 6 rfl
  have f6' := (g1.thAt hk).free (k * 8 + 6)
  obtain ⟨A2, ⟨B2, arr2, ev2, g2, gA2⟩, k2, f2⟩ := g1.put_to gA1 hk (j := 6) (t' := { s.th k with ins := false }) (u := .bool false) (by omega) rfl rfl rfl
  have c7' := (g2.thAt hk).cell 7 (u := .int .u64 (s.th k).v) (by show (upd s.th k _ k).cells[7]? = _; rw [upd_self]; rfl)
  have HN := hid (rnoteL g2 gA2 hl (k : Int) 2 (s.th k).v)
  have HK2 := hid k2
  have HF2 := hid f2
  clear g1 gA1 g2 gA2 k2 f2
  go_wp2_with fail
  refine HN.out.mono ?_
  rintro e w3 ⟨rfl, ht⟩
  clear HN c6' f6' c7'
  go_wp2
  go_ret2
  exact ⟨pc, rfl, p0, p1, Lies.To.trans HK1.out HF1.out (Lies.To.trans HK2.out HF2.out ht)⟩
end
end Go.Proofs.YtldjlcdccnnogaaGreat

/-! A step of a rig's thread that waits. -/
set_option linter.unusedVariables false
set_option linter.unusedSimpArgs false
namespace Go.Proofs.YtldjlcdccnnogaaGreat
open Go.RowKit Go.Lf
section
variable {n : Nat} {E : PrW n} {C : RgC} {w w' : World} {A A0 : Nat → Prop} {arr : Array Value} {ev : Value} {s : RgS} {k : Nat}
/-- The events of a wait's step. -/
def waEv (l : List EvR) (st : Nat) (k : Nat) (set : Int) (bg d : Bool) : List EvR :=
  (if bg = true then l else l ++ [⟨st, k, 3, set⟩]) ++ (if d = true then [⟨st, k, 4, set⟩] else [])
/-- Behind a step of a wait. -/
def WaTo (E : PrW n) (C : RgC) (w : World) (A : Nat → Prop) (s : RgS) (k : Nat) (set : Int) (bg : Bool) (e : Ending) (w' : World) : Prop :=
  ∃ pc d r, e = .returned (.tuple #[.int .u8 pc, .bool d]) ∧ pc ≠ 0 ∧ pc ≠ 1 ∧
    (RigL E C).To w A ⟨waEv s.l s.st k set bg d, s.st, upd s.th k { s.th k with bg := true }, s.x.wstep k set bg d r⟩ w' ∧
    (d = true → ∀ j, j < n → ¬ s.x.must k set bg j) ∧ r ≤ E.bnd set ∧ (r + 1 ≤ s.x.R k ∨ (∃ j v, j < n ∧ s.x.T j = .inn v ∧ E.conc set v = true) ∨ ∃ j s', j < n ∧ j ≠ k ∧ s.x.T j = .wa s' true)
set_option maxHeartbeats 4000000 in
theorem rstep_wa (h : RgAt E C w A0 arr ev s) (hA : ∀ k, A k ↔ A0 k ∨ C.Bk k ∨ ev.ownBlock = some k) (hk : k < n) (hK : s.x.K ≤ 900) (hl : s.l.length < 100000) {b : Nat} {set : Int} (h1 : (s.th k).en = none) (h2 : (s.th k).wa = some b) (hb : s.x.bx k = b) (ho : (s.th k).ops[(s.th k).idx]? = some (3, set)) (hT : s.x.T k = .wa set (s.th k).bg) :
    Calls Tryz.prog 16 #[pb C.m, .int .i64 k] w (WaTo E C w A s k set (s.th k).bg) := by
  have hlt := lt_of_at ho
  obtain ⟨c0, c1, c2, c3, c4, c5, c6, c7⟩ := (h.thAt hk).cells
  obtain ⟨m0, m1, m2, m3, m4, m5⟩ := h.hm.cells
  obtain ⟨hrd, hlen, -⟩ := h.ops k hk
  obtain ⟨b0, of0, c0', hov, hcl⟩ := hrd.cell (by omega)
  have u1 : w.cell? ⟨b0, of0 + (s.th k).idx * 2 + 1, none⟩ = some (.int .u64 set) := hcl _ _ (rigCells_at ho).2
  rw [h1] at c2
  rw [h2] at c3
  rw [hov] at c0
  simp only [pbO] at c2 c3
  have hnc := h.nc
  have H := hid h
  have HA := hid hA
  have H2 := hid h2
  cases hbg : (s.th k).bg with
  | true =>
    rw [hbg] at c5 hT
    clear h hA h1 h2 c4 c6 c7 m0 m1 m3 m4 m5 hrd hcl hov ho
    go_enter Tryz.func16, Tryz.ntmps16
    go_wp2
    go_quiet (fail)
    obtain ⟨W, hW⟩ : ∃ W, W = w.drewN nq := ⟨_, rfl⟩
    rw [← hW]
    have kq : Keep Nil w W := by rw [hW]; exact (Keep.refl Nil w).drewN nq
    obtain ⟨A1, ⟨B1, arr1, ev1, g1, gA1⟩, k1, f1⟩ := H.out.eng_to HA.out hk (x' := s.x) ⟨A0, E.P.keep H.out.eng kq (fun _ _ e => e), kq.mono (fun _ _ e => e.elim), fun _ h => .inl h⟩
    have HK1 := hid k1
    have HF1 := hid f1
    have c5' := kq.cell c5 (fun e => e)
    have c3' := kq.cell c3 (fun e => e)
    clear hW c0 c1 c2 c3 c5 u1 m2 kq k1 f1
    have f5' := (g1.thAt hk).free (k * 8 + 5)
    obtain ⟨A2, ⟨B2, arr2, ev2, g2, gA2⟩, k2, f2⟩ := g1.put_to gA1 hk (j := 5) (t' := { s.th k with bg := true }) (u := .bool true) (by omega) rfl rfl rfl
    have c3'' := (g2.thAt hk).cell 3 (u := pb b) (by show (upd s.th k _ k).cells[3]? = _; rw [upd_self]; show some (pbO (s.th k).wa) = _; rw [H2.out]; rfl)
    have HC := hid (E.wstep k set true g2.eng hK hk hT)
    rw [show (⟨s.l, s.st, upd s.th k { s.th k with bg := true }, s.x⟩ : RgS).x = s.x from rfl, hb] at HC
    have G2 := hid g2
    have GA2 := hid gA2
    have HK2 := hid k2
    have HF2 := hid f2
    clear g1 gA1 g2 gA2 k2 f2
    go_wp2_with fail
    refine HC.out.mono ?_
    rintro e w4 ⟨pc, d, r, rfl, p0, p1, ht, hd, hr, hr2⟩
    obtain ⟨A3, ⟨B3, arr3, ev3, g3, gA3⟩, k3, f3⟩ := G2.out.eng_to GA2.out hk ht
    have HK3 := hid k3
    have HF3 := hid f3
    clear HC ht k3 f3 c5' c3' f5' c3''
    cases d with
    | false =>
      have G3 := hid g3
      have GA3 := hid gA3
      clear g3 gA3
      go_wp2
      go_ret2
      refine ⟨pc, false, r, rfl, p0, p1, Lies.To.trans HK1.out HF1.out (Lies.To.trans HK2.out HF2.out ⟨A3, ?_, HK3.out, HF3.out⟩), (fun e => by cases e), hr, hr2⟩
      have e : waEv s.l s.st k set true false = s.l := by simp [waEv]
      rw [e]
      exact ⟨B3, arr3, ev3, G3.out, GA3.out⟩
    | true =>
      have HN := hid (rnoteL g3 gA3 (by simp only [List.length_append, List.length_singleton]; omega) (k : Int) 4 set)
      clear g3 gA3
      go_wp2_with fail
      refine HN.out.mono ?_
      rintro e w5 ⟨rfl, ht⟩
      clear HN
      go_wp2
      go_ret2
      refine ⟨pc, true, r, rfl, p0, p1, Lies.To.trans HK1.out HF1.out (Lies.To.trans HK2.out HF2.out (Lies.To.trans HK3.out HF3.out ?_)), (fun _ => hd trivial), hr, hr2⟩
      have e : waEv s.l s.st k set true true = s.l ++ [⟨s.st, k, 4, set⟩] := by simp [waEv]
      rw [e]
      exact ht
  | false =>
    rw [hbg] at c5 hT
    clear h hA h1 h2 c4 c6 c7 m0 m1 m3 m4 m5 hrd hcl hov ho
    go_enter Tryz.func16, Tryz.ntmps16
    go_wp2
    go_quiet (fail)
    obtain ⟨W, hW⟩ : ∃ W, W = w.drewN nq := ⟨_, rfl⟩
    rw [← hW]
    have kq : Keep Nil w W := by rw [hW]; exact (Keep.refl Nil w).drewN nq
    obtain ⟨Aq, ⟨Bq, arrq, evq, gq, gAq⟩, kq1, fq1⟩ := H.out.eng_to HA.out hk (x' := s.x) ⟨A0, E.P.keep H.out.eng kq (fun _ _ e => e), kq.mono (fun _ _ e => e.elim), fun _ h => .inl h⟩
    have HKq := hid kq1
    have HFq := hid fq1
    have HN := hid (rnoteL gq gAq (show s.l.length < 1000000 by omega) (k : Int) 3 set)
    have c5' := kq.cell c5 (fun e => e)
    have c3' := kq.cell c3 (fun e => e)
    clear hW c0 c1 c2 c3 c5 u1 m2 kq kq1 fq1 gq gAq
    go_wp2_with fail
    refine HN.out.mono ?_
    rintro e w1 ⟨rfl, A1, ⟨B1, arr1, ev1, g1, gA1⟩, k1, f1⟩
    have HK1 := hid (HKq.out.trans k1 (fun j hj e => (HFq.out j e).elim id (fun h => by omega)))
    have HF1 := hid (Foot.trans HFq.out HKq.out f1)
    clear HN k1 f1 c5' c3'
    have c5' : w1.cell? ⟨C.tb, k * 8 + 5, none⟩ = some (.bool false) := (g1.thAt hk).cell 5 (by show some (Value.bool (s.th k).bg) = _; rw [hbg])
    have c3' : w1.cell? ⟨C.tb, k * 8 + 3, none⟩ = some (pb b) := (g1.thAt hk).cell 3 (by show some (pbO (s.th k).wa) = _; rw [H2.out]; rfl)
    have f5' := (g1.thAt hk).free (k * 8 + 5)
    obtain ⟨A2, ⟨B2, arr2, ev2, g2, gA2⟩, k2, f2⟩ := g1.put_to gA1 hk (j := 5) (t' := { s.th k with bg := true }) (u := .bool true) (by omega) rfl rfl rfl
    have c3'' := (g2.thAt hk).cell 3 (u := pb b) (by show (upd s.th k _ k).cells[3]? = _; rw [upd_self]; show some (pbO (s.th k).wa) = _; rw [H2.out]; rfl)
    have HC := hid (E.wstep k set false g2.eng hK hk hT)
    rw [show (⟨(s.l ++ [⟨s.st, k, 3, set⟩]), s.st, upd s.th k { s.th k with bg := true }, s.x⟩ : RgS).x = s.x from rfl, hb] at HC
    have G2 := hid g2
    have GA2 := hid gA2
    have HK2 := hid k2
    have HF2 := hid f2
    clear g1 gA1 g2 gA2 k2 f2
    go_wp2_with fail
    refine HC.out.mono ?_
    rintro e w4 ⟨pc, d, r, rfl, p0, p1, ht, hd, hr, hr2⟩
    obtain ⟨A3, ⟨B3, arr3, ev3, g3, gA3⟩, k3, f3⟩ := G2.out.eng_to GA2.out hk ht
    have HK3 := hid k3
    have HF3 := hid f3
    clear HC ht k3 f3 c5' c3' f5' c3''
    cases d with
    | false =>
      have G3 := hid g3
      have GA3 := hid gA3
      clear g3 gA3
      go_wp2
      go_ret2
      refine ⟨pc, false, r, rfl, p0, p1, Lies.To.trans HK1.out HF1.out (Lies.To.trans HK2.out HF2.out ⟨A3, ?_, HK3.out, HF3.out⟩), (fun e => by cases e), hr, hr2⟩
      have e : waEv s.l s.st k set false false = (s.l ++ [⟨s.st, k, 3, set⟩]) := by simp [waEv]
      rw [e]
      exact ⟨B3, arr3, ev3, G3.out, GA3.out⟩
    | true =>
      have HN := hid (rnoteL g3 gA3 (by simp only [List.length_append, List.length_singleton]; omega) (k : Int) 4 set)
      clear g3 gA3
      go_wp2_with fail
      refine HN.out.mono ?_
      rintro e w5 ⟨rfl, ht⟩
      clear HN
      go_wp2
      go_ret2
      refine ⟨pc, true, r, rfl, p0, p1, Lies.To.trans HK1.out HF1.out (Lies.To.trans HK2.out HF2.out (Lies.To.trans HK3.out HF3.out ?_)), (fun _ => hd trivial), hr, hr2⟩
      have e : waEv s.l s.st k set false true = (s.l ++ [⟨s.st, k, 3, set⟩]) ++ [⟨s.st, k, 4, set⟩] := by simp [waEv]
      rw [e]
      exact ht
end
end Go.Proofs.YtldjlcdccnnogaaGreat
