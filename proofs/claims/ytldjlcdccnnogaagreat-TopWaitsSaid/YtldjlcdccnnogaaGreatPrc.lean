/- prcu's calls, over each engine: what lies behind the interfaces. -/
import Derived.Test.YtldjlcdccnnogaaGreatPrW
import Derived.Deep.RegionHeld3
import Derived.Deep.DeepCutAuto
set_option linter.unusedVariables false
set_option linter.unusedSimpArgs false
namespace Go.Lf
open Go.RowKit
theorem Lies.To.pre {σ : Type} {P : Lies σ} {w w1 w2 : World} {A : Nat → Prop} {s : σ} (hk : Keep Nil w w1) (h : P.To w1 A s w2) : P.To w A s w2 := by
  obtain ⟨A', a, b, c⟩ := h
  have := hk.size
  exact ⟨A', a, (hk.mono (fun _ _ h => h.elim)).trans b (fun _ _ h => h), fun k hk' => (c k hk').elim .inl (fun e => .inr (by omega))⟩
end Go.Lf
namespace Go.Proofs.YtldjlcdccnnogaaGreat
open Go.RowKit Go.Lf
/-- prcu's block: the engine's interface value, its kind, its slots. -/
def PrHead (w : World) (p : Nat) (iv : Value) (kind : Int) (n : Nat) : Prop := w.heap[p]? = some (.cells #[iv, .int .u8 kind, .int .i64 n] 142 (0, 0))
def PrBoxE (w : World) (b : Nat) (iv : Value) : Prop := w.heap[b]? = some (.cells #[iv] 171 (0, 0))
def PrBoxW (w : World) (b : Nat) (iv : Value) : Prop := w.heap[b]? = some (.cells #[iv] 172 (0, 0))
section
variable {w : World} {p b : Nat} {iv : Value} {kind : Int} {n : Nat}
theorem PrHead.cells (h : PrHead w p iv kind n) : w.cell? ⟨p, 0, none⟩ = some iv ∧ w.cell? ⟨p, 1, none⟩ = some (.int .u8 kind) ∧ w.cell? ⟨p, 2, none⟩ = some (.int .i64 n) := by
  refine ⟨?_, ?_, ?_⟩ <;> (rw [cell_of h]; rfl)
theorem PrBoxE.cell (h : PrBoxE w b iv) : w.cell? ⟨b, 0, none⟩ = some iv := by rw [cell_of h]; rfl
theorem PrBoxW.cell (h : PrBoxW w b iv) : w.cell? ⟨b, 0, none⟩ = some iv := by rw [cell_of h]; rfl
set_option maxHeartbeats 1000000 in
theorem prslot_ok (h : PrHead w p iv kind n) (k : Nat) (hk : k < n) (hn : n ≤ 64) : Calls Tryz.prog 63 #[pb p, .int .i64 k, .int .i64 k] w fun e w' => e = .returned (.int .i64 0) ∧ w = w' := by
  obtain ⟨c0, c1, c2⟩ := h.cells
  have d1 : decide ((k : Int) < 0) = false := decide_eq_false (by omega)
  have d2 : decide ((64 : Int) ≤ (k : Int)) = false := decide_eq_false (by omega)
  have d3 : decide ((n : Int) ≤ (k : Int)) = false := decide_eq_false (by omega)
  have d4 : decide (n ≤ k) = false := decide_eq_false (by omega)
  have d5 : decide (64 ≤ k) = false := decide_eq_false (by omega)
  clear h hk hn c0 c1
  go_enter Tryz.func63, Tryz.ntmps63
  go_wp2
  go_ret
  exact ⟨rfl, rfl⟩
theorem prkind_ok (h : PrHead w p iv kind n) : Calls Tryz.prog 61 #[pb p] w fun e w' => e = .returned (.int .u8 kind) ∧ w = w' := by
  obtain ⟨c0, c1, c2⟩ := h.cells
  clear h c0 c2
  go_enter Tryz.func61, Tryz.ntmps61
  go_wp2
  go_ret
  exact ⟨rfl, rfl⟩
end

/-! full -/

def heldV_full (g : Nat) : Value := .iface 149 (.agg #[.iface 143 (pb g)])
abbrev enV_full (b : Nat) : Value := .iface 257 (pb b)
abbrev waV_full (b : Nat) : Value := .iface 260 (pb b)
section
variable {w : World} {p b g eb : Nat} {kind : Int} {n : Nat}
theorem prhE_full (x : Nat) : Calls Tryz.prog 143 #[pb x, .int .i64 0] w fun e w' => e = .returned (.tuple #[enV_full x, .int .i64 0]) ∧ w = w' := by
  go_enter Tryz.func143, Tryz.ntmps143
  go_wp2
  go_ret2
  exact ⟨rfl, rfl⟩
theorem prhW_full (x : Nat) : Calls Tryz.prog 144 #[pb x, .int .i64 0] w fun e w' => e = .returned (.tuple #[waV_full x, .int .i64 0]) ∧ w = w' := by
  go_enter Tryz.func144, Tryz.ntmps144
  go_wp2
  go_ret2
  exact ⟨rfl, rfl⟩
theorem prn_full (h : PrBoxE w b (enV_full eb)) {pc : Int} (hc : Calls Tryz.prog 191 #[pb eb] w fun e w' => e = .returned (.int .u8 pc) ∧ Keep Nil w w') : Calls Tryz.prog 34 #[pb b] w fun e w' => e = .returned (.int .u8 pc) ∧ Keep Nil w w' := by
  have c := h.cell
  clear h
  go_enter Tryz.func34, Tryz.ntmps34
  go_wp2_with fail
  refine hc.mono ?_
  rintro e w' ⟨rfl, hk⟩
  go_wp2
  go_ret
  exact ⟨rfl, hk⟩
theorem prwn_full (h : PrBoxW w b (waV_full eb)) {pc : Int} (hc : Calls Tryz.prog 193 #[pb eb] w fun e w' => e = .returned (.int .u8 pc) ∧ Keep Nil w w') : Calls Tryz.prog 35 #[pb b] w fun e w' => e = .returned (.int .u8 pc) ∧ Keep Nil w w' := by
  have c := h.cell
  clear h
  go_enter Tryz.func35, Tryz.ntmps35
  go_wp2_with fail
  refine hc.mono ?_
  rintro e w' ⟨rfl, hk⟩
  go_wp2
  go_ret
  exact ⟨rfl, hk⟩
theorem prs_full (h : PrBoxE w b (enV_full eb)) {pc : Int} {d : Bool} {Q : World → Prop} (hc : Calls Tryz.prog 192 #[pb eb] w fun e w' => e = .returned (.tuple #[.int .u8 pc, .bool d]) ∧ Q w') : Calls Tryz.prog 36 #[pb b] w fun e w' => e = .returned (.tuple #[.int .u8 pc, .bool d]) ∧ Q w' := by
  have c := h.cell
  clear h
  go_enter Tryz.func36, Tryz.ntmps36
  go_wp2_with fail
  refine hc.mono ?_
  rintro e w' ⟨rfl, hk⟩
  go_wp2
  go_ret2
  exact ⟨rfl, hk⟩
theorem prws_full (h : PrBoxW w b (waV_full eb)) {pc : Int} {d : Bool} {Q : World → Prop} (hc : Calls Tryz.prog 194 #[pb eb] w fun e w' => e = .returned (.tuple #[.int .u8 pc, .bool d]) ∧ Q w') : Calls Tryz.prog 38 #[pb b] w fun e w' => e = .returned (.tuple #[.int .u8 pc, .bool d]) ∧ Q w' := by
  have c := h.cell
  clear h
  go_enter Tryz.func38, Tryz.ntmps38
  go_wp2_with fail
  refine hc.mono ?_
  rintro e w' ⟨rfl, hk⟩
  go_wp2
  go_ret2
  exact ⟨rfl, hk⟩
set_option maxHeartbeats 1000000 in
theorem prx_full (h : PrHead w p (heldV_full g) kind n) (k : Nat) (hk : k < n) (hn : n ≤ 64) {pc : Int} {Q : World → Prop} (hc : ∀ w1, Keep Nil w w1 → Calls Tryz.prog 126 #[pb g, .int .i64 k, .int .i64 k] w1 fun e w' => e = .returned (.tuple #[.int .u8 pc, .int .i64 0]) ∧ Q w') :
    Calls Tryz.prog 39 #[pb p, .int .i64 k, .int .i64 k] w fun e w' => e = .returned (.tuple #[.int .u8 pc, .int .i64 0]) ∧ Q w' := by
  have HS := hid (prslot_ok h k hk hn)
  obtain ⟨c0, c1, c2⟩ := h.cells
  unfold heldV_full at c0
  clear h hk hn c1 c2
  go_enter Tryz.func39, Tryz.ntmps39
  go_wp2_with fail
  refine HS.out.mono ?_
  rintro e w' ⟨rfl, rfl⟩
  clear HS
  go_wp2_with fail
  refine (hc _ ?_).mono ?_
  · as_aux_lemma => exact Keep.refl _ _
  rintro e w' ⟨rfl, hq⟩
  go_wp2
  go_ret2
  exact ⟨rfl, hq⟩
theorem prhe_full (k v : Int) {Q : Nat → World → Prop} (hc : ∀ w1, Keep Nil w w1 → Calls Tryz.prog 125 #[pb g, .int .i64 k, .int .i64 k, .int .i64 v] w1 fun e w' => ∃ eb, e = .returned (.tuple #[pb eb, .int .i64 0]) ∧ Q eb w') :
    Calls Tryz.prog 141 #[.agg #[.iface 143 (pb g)], .int .i64 k, .int .i64 k, .int .i64 v] w fun e w' => ∃ eb, e = .returned (.tuple #[enV_full eb, .int .i64 0]) ∧ Q eb w' := by
  go_enter Tryz.func141, Tryz.ntmps141
  go_wp2_with fail
  refine (hc _ ?_).mono ?_
  · as_aux_lemma => exact (Keep.refl _ _).alloc _
  rintro e w' ⟨eb, rfl, hq⟩
  go_wp2_with fail
  refine (prhE_full _).mono ?_
  rintro e w'' ⟨rfl, rfl⟩
  go_wp2
  go_ret2
  exact ⟨eb, rfl, hq⟩
theorem prhw_full (k v : Int) {Q : Nat → World → Prop} (hc : ∀ w1, Keep Nil w w1 → Calls Tryz.prog 128 #[pb g, .int .i64 k, .int .u64 v] w1 fun e w' => ∃ eb, e = .returned (.tuple #[pb eb, .int .i64 0]) ∧ Q eb w') :
    Calls Tryz.prog 142 #[.agg #[.iface 143 (pb g)], .int .i64 k, .int .u64 v] w fun e w' => ∃ eb, e = .returned (.tuple #[waV_full eb, .int .i64 0]) ∧ Q eb w' := by
  go_enter Tryz.func142, Tryz.ntmps142
  go_wp2_with fail
  refine (hc _ ?_).mono ?_
  · as_aux_lemma => exact (Keep.refl _ _).alloc _
  rintro e w' ⟨eb, rfl, hq⟩
  go_wp2_with fail
  refine (prhW_full _).mono ?_
  rintro e w'' ⟨rfl, rfl⟩
  go_wp2
  go_ret2
  exact ⟨eb, rfl, hq⟩
set_option maxHeartbeats 1000000 in
theorem pren_full (h : PrHead w p (heldV_full g) kind n) (k : Nat) (v : Int) (hk : k < n) (hn : n ≤ 64) {Q : Nat → World → Prop} (hc : ∀ w1, Keep Nil w w1 → Calls Tryz.prog 125 #[pb g, .int .i64 k, .int .i64 k, .int .i64 v] w1 fun e w' => ∃ eb, e = .returned (.tuple #[pb eb, .int .i64 0]) ∧ Q eb w') :
    Calls Tryz.prog 60 #[pb p, .int .i64 k, .int .i64 k, .int .i64 v] w fun e w' => ∃ eb w1, Q eb w1 ∧ e = .returned (.tuple #[pb w1.heap.size, .int .i64 0]) ∧ PrBoxE w' w1.heap.size (enV_full eb) ∧ Keep Nil w1 w' := by
  have HS := hid (prslot_ok h k hk hn)
  obtain ⟨c0, c1, c2⟩ := h.cells
  unfold heldV_full at c0
  clear h hk hn c1 c2
  go_enter Tryz.func60, Tryz.ntmps60
  go_wp2_with fail
  refine HS.out.mono ?_
  rintro e w' ⟨rfl, rfl⟩
  clear HS
  go_wp2_with fail
  refine (prhe_full k v hc).mono ?_
  rintro e w1 ⟨eb, rfl, hq⟩
  clear hc c0
  go_wp2
  go_ret2
  exact ⟨eb, w1, hq, rfl, heap_alloc_new _ _, (Keep.refl _ _).alloc _⟩
set_option maxHeartbeats 1000000 in
theorem prwa_full (h : PrHead w p (heldV_full g) kind n) (k : Nat) (v : Int) {Q : Nat → World → Prop} (hc : ∀ w1, Keep Nil w w1 → Calls Tryz.prog 128 #[pb g, .int .i64 k, .int .u64 v] w1 fun e w' => ∃ eb, e = .returned (.tuple #[pb eb, .int .i64 0]) ∧ Q eb w') :
    Calls Tryz.prog 62 #[pb p, .int .i64 k, .int .u64 v] w fun e w' => ∃ eb w1, Q eb w1 ∧ e = .returned (.tuple #[pb w1.heap.size, .int .i64 0]) ∧ PrBoxW w' w1.heap.size (waV_full eb) ∧ Keep Nil w1 w' := by
  obtain ⟨c0, c1, c2⟩ := h.cells
  unfold heldV_full at c0
  clear h c1 c2
  go_enter Tryz.func62, Tryz.ntmps62
  go_wp2_with fail
  refine (prhw_full k v hc).mono ?_
  rintro e w1 ⟨eb, rfl, hq⟩
  clear hc c0
  go_wp2
  go_ret2
  exact ⟨eb, w1, hq, rfl, heap_alloc_new _ _, (Keep.refl _ _).alloc _⟩
end

/-! each -/

def heldV_each (g : Nat) : Value := .iface 156 (.agg #[.iface 150 (pb g)])
abbrev enV_each (b : Nat) : Value := .iface 273 (pb b)
abbrev waV_each (b : Nat) : Value := .iface 281 (pb b)
section
variable {w : World} {p b g eb : Nat} {kind : Int} {n : Nat}
theorem prhE_each (x : Nat) : Calls Tryz.prog 154 #[pb x, .int .i64 0] w fun e w' => e = .returned (.tuple #[enV_each x, .int .i64 0]) ∧ w = w' := by
  go_enter Tryz.func154, Tryz.ntmps154
  go_wp2
  go_ret2
  exact ⟨rfl, rfl⟩
theorem prhW_each (x : Nat) : Calls Tryz.prog 155 #[pb x, .int .i64 0] w fun e w' => e = .returned (.tuple #[waV_each x, .int .i64 0]) ∧ w = w' := by
  go_enter Tryz.func155, Tryz.ntmps155
  go_wp2
  go_ret2
  exact ⟨rfl, rfl⟩
theorem prn_each (h : PrBoxE w b (enV_each eb)) {pc : Int} (hc : Calls Tryz.prog 195 #[pb eb] w fun e w' => e = .returned (.int .u8 pc) ∧ Keep Nil w w') : Calls Tryz.prog 34 #[pb b] w fun e w' => e = .returned (.int .u8 pc) ∧ Keep Nil w w' := by
  have c := h.cell
  clear h
  go_enter Tryz.func34, Tryz.ntmps34
  go_wp2_with fail
  refine hc.mono ?_
  rintro e w' ⟨rfl, hk⟩
  go_wp2
  go_ret
  exact ⟨rfl, hk⟩
theorem prwn_each (h : PrBoxW w b (waV_each eb)) {pc : Int} (hc : Calls Tryz.prog 200 #[pb eb] w fun e w' => e = .returned (.int .u8 pc) ∧ Keep Nil w w') : Calls Tryz.prog 35 #[pb b] w fun e w' => e = .returned (.int .u8 pc) ∧ Keep Nil w w' := by
  have c := h.cell
  clear h
  go_enter Tryz.func35, Tryz.ntmps35
  go_wp2_with fail
  refine hc.mono ?_
  rintro e w' ⟨rfl, hk⟩
  go_wp2
  go_ret
  exact ⟨rfl, hk⟩
theorem prs_each (h : PrBoxE w b (enV_each eb)) {pc : Int} {d : Bool} {Q : World → Prop} (hc : Calls Tryz.prog 196 #[pb eb] w fun e w' => e = .returned (.tuple #[.int .u8 pc, .bool d]) ∧ Q w') : Calls Tryz.prog 36 #[pb b] w fun e w' => e = .returned (.tuple #[.int .u8 pc, .bool d]) ∧ Q w' := by
  have c := h.cell
  clear h
  go_enter Tryz.func36, Tryz.ntmps36
  go_wp2_with fail
  refine hc.mono ?_
  rintro e w' ⟨rfl, hk⟩
  go_wp2
  go_ret2
  exact ⟨rfl, hk⟩
theorem prws_each (h : PrBoxW w b (waV_each eb)) {pc : Int} {d : Bool} {Q : World → Prop} (hc : Calls Tryz.prog 201 #[pb eb] w fun e w' => e = .returned (.tuple #[.int .u8 pc, .bool d]) ∧ Q w') : Calls Tryz.prog 38 #[pb b] w fun e w' => e = .returned (.tuple #[.int .u8 pc, .bool d]) ∧ Q w' := by
  have c := h.cell
  clear h
  go_enter Tryz.func38, Tryz.ntmps38
  go_wp2_with fail
  refine hc.mono ?_
  rintro e w' ⟨rfl, hk⟩
  go_wp2
  go_ret2
  exact ⟨rfl, hk⟩
set_option maxHeartbeats 1000000 in
theorem prx_each (h : PrHead w p (heldV_each g) kind n) (k : Nat) (hk : k < n) (hn : n ≤ 64) {pc : Int} {Q : World → Prop} (hc : ∀ w1, Keep Nil w w1 → Calls Tryz.prog 146 #[pb g, .int .i64 k, .int .i64 k] w1 fun e w' => e = .returned (.tuple #[.int .u8 pc, .int .i64 0]) ∧ Q w') :
    Calls Tryz.prog 39 #[pb p, .int .i64 k, .int .i64 k] w fun e w' => e = .returned (.tuple #[.int .u8 pc, .int .i64 0]) ∧ Q w' := by
  have HS := hid (prslot_ok h k hk hn)
  obtain ⟨c0, c1, c2⟩ := h.cells
  unfold heldV_each at c0
  clear h hk hn c1 c2
  go_enter Tryz.func39, Tryz.ntmps39
  go_wp2_with fail
  refine HS.out.mono ?_
  rintro e w' ⟨rfl, rfl⟩
  clear HS
  go_wp2_with fail
  refine (hc _ ?_).mono ?_
  · as_aux_lemma => exact Keep.refl _ _
  rintro e w' ⟨rfl, hq⟩
  go_wp2
  go_ret2
  exact ⟨rfl, hq⟩
theorem prhe_each (k v : Int) {Q : Nat → World → Prop} (hc : ∀ w1, Keep Nil w w1 → Calls Tryz.prog 145 #[pb g, .int .i64 k, .int .i64 k, .int .i64 v] w1 fun e w' => ∃ eb, e = .returned (.tuple #[pb eb, .int .i64 0]) ∧ Q eb w') :
    Calls Tryz.prog 152 #[.agg #[.iface 150 (pb g)], .int .i64 k, .int .i64 k, .int .i64 v] w fun e w' => ∃ eb, e = .returned (.tuple #[enV_each eb, .int .i64 0]) ∧ Q eb w' := by
  go_enter Tryz.func152, Tryz.ntmps152
  go_wp2_with fail
  refine (hc _ ?_).mono ?_
  · as_aux_lemma => exact (Keep.refl _ _).alloc _
  rintro e w' ⟨eb, rfl, hq⟩
  go_wp2_with fail
  refine (prhE_each _).mono ?_
  rintro e w'' ⟨rfl, rfl⟩
  go_wp2
  go_ret2
  exact ⟨eb, rfl, hq⟩
theorem prhw_each (k v : Int) {Q : Nat → World → Prop} (hc : ∀ w1, Keep Nil w w1 → Calls Tryz.prog 148 #[pb g, .int .i64 k, .int .u64 v] w1 fun e w' => ∃ eb, e = .returned (.tuple #[pb eb, .int .i64 0]) ∧ Q eb w') :
    Calls Tryz.prog 153 #[.agg #[.iface 150 (pb g)], .int .i64 k, .int .u64 v] w fun e w' => ∃ eb, e = .returned (.tuple #[waV_each eb, .int .i64 0]) ∧ Q eb w' := by
  go_enter Tryz.func153, Tryz.ntmps153
  go_wp2_with fail
  refine (hc _ ?_).mono ?_
  · as_aux_lemma => exact (Keep.refl _ _).alloc _
  rintro e w' ⟨eb, rfl, hq⟩
  go_wp2_with fail
  refine (prhW_each _).mono ?_
  rintro e w'' ⟨rfl, rfl⟩
  go_wp2
  go_ret2
  exact ⟨eb, rfl, hq⟩
set_option maxHeartbeats 1000000 in
theorem pren_each (h : PrHead w p (heldV_each g) kind n) (k : Nat) (v : Int) (hk : k < n) (hn : n ≤ 64) {Q : Nat → World → Prop} (hc : ∀ w1, Keep Nil w w1 → Calls Tryz.prog 145 #[pb g, .int .i64 k, .int .i64 k, .int .i64 v] w1 fun e w' => ∃ eb, e = .returned (.tuple #[pb eb, .int .i64 0]) ∧ Q eb w') :
    Calls Tryz.prog 60 #[pb p, .int .i64 k, .int .i64 k, .int .i64 v] w fun e w' => ∃ eb w1, Q eb w1 ∧ e = .returned (.tuple #[pb w1.heap.size, .int .i64 0]) ∧ PrBoxE w' w1.heap.size (enV_each eb) ∧ Keep Nil w1 w' := by
  have HS := hid (prslot_ok h k hk hn)
  obtain ⟨c0, c1, c2⟩ := h.cells
  unfold heldV_each at c0
  clear h hk hn c1 c2
  go_enter Tryz.func60, Tryz.ntmps60
  go_wp2_with fail
  refine HS.out.mono ?_
  rintro e w' ⟨rfl, rfl⟩
  clear HS
  go_wp2_with fail
  refine (prhe_each k v hc).mono ?_
  rintro e w1 ⟨eb, rfl, hq⟩
  clear hc c0
  go_wp2
  go_ret2
  exact ⟨eb, w1, hq, rfl, heap_alloc_new _ _, (Keep.refl _ _).alloc _⟩
set_option maxHeartbeats 1000000 in
theorem prwa_each (h : PrHead w p (heldV_each g) kind n) (k : Nat) (v : Int) {Q : Nat → World → Prop} (hc : ∀ w1, Keep Nil w w1 → Calls Tryz.prog 148 #[pb g, .int .i64 k, .int .u64 v] w1 fun e w' => ∃ eb, e = .returned (.tuple #[pb eb, .int .i64 0]) ∧ Q eb w') :
    Calls Tryz.prog 62 #[pb p, .int .i64 k, .int .u64 v] w fun e w' => ∃ eb w1, Q eb w1 ∧ e = .returned (.tuple #[pb w1.heap.size, .int .i64 0]) ∧ PrBoxW w' w1.heap.size (waV_each eb) ∧ Keep Nil w1 w' := by
  obtain ⟨c0, c1, c2⟩ := h.cells
  unfold heldV_each at c0
  clear h c1 c2
  go_enter Tryz.func62, Tryz.ntmps62
  go_wp2_with fail
  refine (prhw_each k v hc).mono ?_
  rintro e w1 ⟨eb, rfl, hq⟩
  clear hc c0
  go_wp2
  go_ret2
  exact ⟨eb, w1, hq, rfl, heap_alloc_new _ _, (Keep.refl _ _).alloc _⟩
end

/-! gate -/

def heldV_gate (g : Nat) : Value := .iface 163 (.agg #[.iface 157 (pb g)])
abbrev enV_gate (b : Nat) : Value := .iface 290 (pb b)
abbrev waV_gate (b : Nat) : Value := .iface 301 (pb b)
section
variable {w : World} {p b g eb : Nat} {kind : Int} {n : Nat}
theorem prhE_gate (x : Nat) : Calls Tryz.prog 188 #[pb x, .int .i64 0] w fun e w' => e = .returned (.tuple #[enV_gate x, .int .i64 0]) ∧ w = w' := by
  go_enter Tryz.func188, Tryz.ntmps188
  go_wp2
  go_ret2
  exact ⟨rfl, rfl⟩
theorem prhW_gate (x : Nat) : Calls Tryz.prog 189 #[pb x, .int .i64 0] w fun e w' => e = .returned (.tuple #[waV_gate x, .int .i64 0]) ∧ w = w' := by
  go_enter Tryz.func189, Tryz.ntmps189
  go_wp2
  go_ret2
  exact ⟨rfl, rfl⟩
theorem prn_gate (h : PrBoxE w b (enV_gate eb)) {pc : Int} (hc : Calls Tryz.prog 207 #[pb eb] w fun e w' => e = .returned (.int .u8 pc) ∧ Keep Nil w w') : Calls Tryz.prog 34 #[pb b] w fun e w' => e = .returned (.int .u8 pc) ∧ Keep Nil w w' := by
  have c := h.cell
  clear h
  go_enter Tryz.func34, Tryz.ntmps34
  go_wp2_with fail
  refine hc.mono ?_
  rintro e w' ⟨rfl, hk⟩
  go_wp2
  go_ret
  exact ⟨rfl, hk⟩
theorem prwn_gate (h : PrBoxW w b (waV_gate eb)) {pc : Int} (hc : Calls Tryz.prog 209 #[pb eb] w fun e w' => e = .returned (.int .u8 pc) ∧ Keep Nil w w') : Calls Tryz.prog 35 #[pb b] w fun e w' => e = .returned (.int .u8 pc) ∧ Keep Nil w w' := by
  have c := h.cell
  clear h
  go_enter Tryz.func35, Tryz.ntmps35
  go_wp2_with fail
  refine hc.mono ?_
  rintro e w' ⟨rfl, hk⟩
  go_wp2
  go_ret
  exact ⟨rfl, hk⟩
theorem prs_gate (h : PrBoxE w b (enV_gate eb)) {pc : Int} {d : Bool} {Q : World → Prop} (hc : Calls Tryz.prog 208 #[pb eb] w fun e w' => e = .returned (.tuple #[.int .u8 pc, .bool d]) ∧ Q w') : Calls Tryz.prog 36 #[pb b] w fun e w' => e = .returned (.tuple #[.int .u8 pc, .bool d]) ∧ Q w' := by
  have c := h.cell
  clear h
  go_enter Tryz.func36, Tryz.ntmps36
  go_wp2_with fail
  refine hc.mono ?_
  rintro e w' ⟨rfl, hk⟩
  go_wp2
  go_ret2
  exact ⟨rfl, hk⟩
theorem prws_gate (h : PrBoxW w b (waV_gate eb)) {pc : Int} {d : Bool} {Q : World → Prop} (hc : Calls Tryz.prog 210 #[pb eb] w fun e w' => e = .returned (.tuple #[.int .u8 pc, .bool d]) ∧ Q w') : Calls Tryz.prog 38 #[pb b] w fun e w' => e = .returned (.tuple #[.int .u8 pc, .bool d]) ∧ Q w' := by
  have c := h.cell
  clear h
  go_enter Tryz.func38, Tryz.ntmps38
  go_wp2_with fail
  refine hc.mono ?_
  rintro e w' ⟨rfl, hk⟩
  go_wp2
  go_ret2
  exact ⟨rfl, hk⟩
set_option maxHeartbeats 1000000 in
theorem prx_gate (h : PrHead w p (heldV_gate g) kind n) (k : Nat) (hk : k < n) (hn : n ≤ 64) {pc : Int} {Q : World → Prop} (hc : ∀ w1, Keep Nil w w1 → Calls Tryz.prog 157 #[pb g, .int .i64 k, .int .i64 k] w1 fun e w' => e = .returned (.tuple #[.int .u8 pc, .int .i64 0]) ∧ Q w') :
    Calls Tryz.prog 39 #[pb p, .int .i64 k, .int .i64 k] w fun e w' => e = .returned (.tuple #[.int .u8 pc, .int .i64 0]) ∧ Q w' := by
  have HS := hid (prslot_ok h k hk hn)
  obtain ⟨c0, c1, c2⟩ := h.cells
  unfold heldV_gate at c0
  clear h hk hn c1 c2
  go_enter Tryz.func39, Tryz.ntmps39
  go_wp2_with fail
  refine HS.out.mono ?_
  rintro e w' ⟨rfl, rfl⟩
  clear HS
  go_wp2_with fail
  refine (hc _ ?_).mono ?_
  · as_aux_lemma => exact Keep.refl _ _
  rintro e w' ⟨rfl, hq⟩
  go_wp2
  go_ret2
  exact ⟨rfl, hq⟩
theorem prhe_gate (k v : Int) {Q : Nat → World → Prop} (hc : ∀ w1, Keep Nil w w1 → Calls Tryz.prog 156 #[pb g, .int .i64 k, .int .i64 k, .int .i64 v] w1 fun e w' => ∃ eb, e = .returned (.tuple #[pb eb, .int .i64 0]) ∧ Q eb w') :
    Calls Tryz.prog 186 #[.agg #[.iface 157 (pb g)], .int .i64 k, .int .i64 k, .int .i64 v] w fun e w' => ∃ eb, e = .returned (.tuple #[enV_gate eb, .int .i64 0]) ∧ Q eb w' := by
  go_enter Tryz.func186, Tryz.ntmps186
  go_wp2_with fail
  refine (hc _ ?_).mono ?_
  · as_aux_lemma => exact (Keep.refl _ _).alloc _
  rintro e w' ⟨eb, rfl, hq⟩
  go_wp2_with fail
  refine (prhE_gate _).mono ?_
  rintro e w'' ⟨rfl, rfl⟩
  go_wp2
  go_ret2
  exact ⟨eb, rfl, hq⟩
theorem prhw_gate (k v : Int) {Q : Nat → World → Prop} (hc : ∀ w1, Keep Nil w w1 → Calls Tryz.prog 159 #[pb g, .int .i64 k, .int .u64 v] w1 fun e w' => ∃ eb, e = .returned (.tuple #[pb eb, .int .i64 0]) ∧ Q eb w') :
    Calls Tryz.prog 187 #[.agg #[.iface 157 (pb g)], .int .i64 k, .int .u64 v] w fun e w' => ∃ eb, e = .returned (.tuple #[waV_gate eb, .int .i64 0]) ∧ Q eb w' := by
  go_enter Tryz.func187, Tryz.ntmps187
  go_wp2_with fail
  refine (hc _ ?_).mono ?_
  · as_aux_lemma => exact (Keep.refl _ _).alloc _
  rintro e w' ⟨eb, rfl, hq⟩
  go_wp2_with fail
  refine (prhW_gate _).mono ?_
  rintro e w'' ⟨rfl, rfl⟩
  go_wp2
  go_ret2
  exact ⟨eb, rfl, hq⟩
set_option maxHeartbeats 1000000 in
theorem pren_gate (h : PrHead w p (heldV_gate g) kind n) (k : Nat) (v : Int) (hk : k < n) (hn : n ≤ 64) {Q : Nat → World → Prop} (hc : ∀ w1, Keep Nil w w1 → Calls Tryz.prog 156 #[pb g, .int .i64 k, .int .i64 k, .int .i64 v] w1 fun e w' => ∃ eb, e = .returned (.tuple #[pb eb, .int .i64 0]) ∧ Q eb w') :
    Calls Tryz.prog 60 #[pb p, .int .i64 k, .int .i64 k, .int .i64 v] w fun e w' => ∃ eb w1, Q eb w1 ∧ e = .returned (.tuple #[pb w1.heap.size, .int .i64 0]) ∧ PrBoxE w' w1.heap.size (enV_gate eb) ∧ Keep Nil w1 w' := by
  have HS := hid (prslot_ok h k hk hn)
  obtain ⟨c0, c1, c2⟩ := h.cells
  unfold heldV_gate at c0
  clear h hk hn c1 c2
  go_enter Tryz.func60, Tryz.ntmps60
  go_wp2_with fail
  refine HS.out.mono ?_
  rintro e w' ⟨rfl, rfl⟩
  clear HS
  go_wp2_with fail
  refine (prhe_gate k v hc).mono ?_
  rintro e w1 ⟨eb, rfl, hq⟩
  clear hc c0
  go_wp2
  go_ret2
  exact ⟨eb, w1, hq, rfl, heap_alloc_new _ _, (Keep.refl _ _).alloc _⟩
set_option maxHeartbeats 1000000 in
theorem prwa_gate (h : PrHead w p (heldV_gate g) kind n) (k : Nat) (v : Int) {Q : Nat → World → Prop} (hc : ∀ w1, Keep Nil w w1 → Calls Tryz.prog 159 #[pb g, .int .i64 k, .int .u64 v] w1 fun e w' => ∃ eb, e = .returned (.tuple #[pb eb, .int .i64 0]) ∧ Q eb w') :
    Calls Tryz.prog 62 #[pb p, .int .i64 k, .int .u64 v] w fun e w' => ∃ eb w1, Q eb w1 ∧ e = .returned (.tuple #[pb w1.heap.size, .int .i64 0]) ∧ PrBoxW w' w1.heap.size (waV_gate eb) ∧ Keep Nil w1 w' := by
  obtain ⟨c0, c1, c2⟩ := h.cells
  unfold heldV_gate at c0
  clear h c1 c2
  go_enter Tryz.func62, Tryz.ntmps62
  go_wp2_with fail
  refine (prhw_gate k v hc).mono ?_
  rintro e w1 ⟨eb, rfl, hq⟩
  clear hc c0
  go_wp2
  go_ret2
  exact ⟨eb, w1, hq, rfl, heap_alloc_new _ _, (Keep.refl _ _).alloc _⟩
end
end Go.Proofs.YtldjlcdccnnogaaGreat
