/- full: Enter and Exit: contracts. -/
import Derived.Test.YtckopbjejjeknaaFullOps
namespace Go.Proofs.Ytckopbjejjeknaa
open Go.RowKit Go.Lf
attribute [local go_sem] fe_eqf fe_eqn fw_eqf fw_eqn

def entV (eb : Nat) : Bool → Value
  | true => .func (.func 68) #[.pointer (some ⟨eb, 0, none⟩)] #[]
  | false => .nilFunc
def EntAt (w : World) (eb g : Nat) (t : Int) (i : Nat) (live : Bool) : Prop :=
  w.heap[eb]? = some (.cells #[.pointer (some ⟨g, 0, none⟩), .int .i64 t, .int .i64 i, entV eb live] 146 (0, 0))
section
variable {w : World} {g nb bb mb : Nat} {F : Nat → Prop} {base : Int} {nums : List Int} {beg : List Bool} {ws : List Int} {log : List Acc} {eb : Nat} {t : Int} {i : Nat} {live : Bool}
theorem EntAt.cells (h : EntAt w eb g t i live) : w.cell? ⟨eb, 0, none⟩ = some (.pointer (some ⟨g, 0, none⟩)) ∧ w.cell? ⟨eb, 1, none⟩ = some (.int .i64 t) ∧ w.cell? ⟨eb, 2, none⟩ = some (.int .i64 i) ∧ w.cell? ⟨eb, 3, none⟩ = some (entV eb live) := by
  refine ⟨?_, ?_, ?_, ?_⟩ <;> (rw [cell_of h]; rfl)
theorem type_ne {w : World} {b c : Nat} {x y : Array Value} {s t : TypeId} (h : w.heap[b]? = some (.cells x s (0, 0))) (k : w.heap[c]? = some (.cells y t (0, 0))) (hst : s ≠ t) : b ≠ c := by
  intro e; subst e; rw [h] at k
  simp only [Option.some.injEq, Obj.cells.injEq] at k
  exact hst k.2.1

def FEnterTo (w : World) (g nb bb mb : Nat) (F : Nat → Prop) (base : Int) (nums : List Int) (beg : List Bool) (ws : List Int) (log : List Acc) (t : Int) (i : Nat) (e : Ending) (w' : World) : Prop :=
  e = .returned (.tuple #[.pointer (some ⟨w.heap.size, 0, none⟩), .int .i64 0]) ∧ FSys w' g nb bb mb F base nums (beg.set i true) ws log ∧ EntAt w' w.heap.size g t i true ∧ Keep (fun k => k = bb) w w' ∧ w'.heap.size = w.heap.size + 1

theorem eng_begun (h : EngAt w g nb bb mb base nums beg) (v : Bool) : EngAt (w.setCell ⟨bb, i, none⟩ (.bool v)) g nb bb mb base nums (beg.set i v) := by
  have k : Keep (fun k => k = bb) w (w.setCell ⟨bb, i, none⟩ (.bool v)) := Keep.setCell (Keep.refl (fun k => k = bb) w) (.inl rfl) _
  refine ⟨k.at h.head h.n2, k.at h.hnums h.n3, ?_, by simp [h.len], h.n1, h.n2, h.n3⟩
  rw [set_same h.hbeg]; simp [List.map_set]

set_option maxRecDepth 100000 in
set_option maxHeartbeats 2000000 in
theorem fenter_ok (h : FSys w g nb bb mb F base nums beg ws log) (v : Int) (t0 : 0 ≤ t) (t1 : t < 64) (v0 : 0 ≤ v) (v1 : v < 64) (x : Int) (hx : nums[i]? = some x) (x0 : 0 ≤ x) (hev : x % 2 = 0) (hb : beg[i]? = some false) :
    Calls Try.prog 40 #[.pointer (some ⟨g, 0, none⟩), .int .i64 t, .int .i64 i, .int .i64 v] w (FEnterTo w g nb bb mb F base nums beg ws log t i) := by
  obtain ⟨c0, c1, c2, c3⟩ := h.eng.cells
  have cb := h.eng.begun hb
  have l0 := lt_of_at hx
  have zf : w.frozen? ⟨bb, i, none⟩ = false := free_of h.eng.hbeg i
  have HS := hid (fslot_ok h.eng t i t0 t1 (by omega) (by omega))
  have HI := hid (finside_any h.eng i x hx x0 false (by rw [hev]; rfl))
  have d1 : decide (v < 0) = false := decide_eq_false (by omega)
  have d2 : decide (64 ≤ v) = false := decide_eq_false (by omega)
  have H := hid h
  clear h hx hb c0 c1 c2 hev
  go_enter Try.func40, Try.ntmps40
  go_wp2_with fail
  refine HS.out.mono ?_
  rintro e w' ⟨rfl, rfl⟩
  go_wp2_with fail
  refine HI.out.mono ?_
  rintro e w' ⟨rfl, rfl⟩
  go_wp2
  go_ret2
  have hsz : (w.setCell ⟨bb, i, none⟩ (.bool true)).heap.size = w.heap.size := by simp
  have kW : Keep (fun k => k = bb) w ((w.setCell ⟨bb, i, none⟩ (.bool true)).alloc (.cells #[.pointer (some ⟨g, 0, none⟩), .int .i64 t, .int .i64 i, .func (.func 68) #[.pointer (some ⟨w.heap.size, 0, none⟩)] #[]] 146)) := (Keep.setCell (Keep.refl (fun k => k = bb) w) (.inl rfl) _).alloc _
  refine ⟨rfl, ⟨H.out.mem.keep kW (fun k hF e => H.out.f3 (by rw [← e]; exact hF)), (eng_begun H.out.eng true).keep ((Keep.refl Nil _).alloc _) (fun h => h) (fun h => h) (fun h => h), H.out.f1, H.out.f2, H.out.f3⟩, ?_, kW, by simp⟩
  have hq := heap_alloc_new (w.setCell ⟨bb, i, none⟩ (.bool true)) (.cells #[.pointer (some ⟨g, 0, none⟩), .int .i64 t, .int .i64 i, .func (.func 68) #[.pointer (some ⟨w.heap.size, 0, none⟩)] #[]] 146)
  rw [hsz] at hq
  exact hq

/-- An Enter has made its step. -/
def FEntTo (w : World) (g nb bb mb : Nat) (F : Nat → Prop) (base : Int) (nums : List Int) (beg : List Bool) (ws : List Int) (log : List Acc) (eb : Nat) (t : Int) (i : Nat) (w' : World) : Prop :=
  ∃ F', FSys w' g nb bb mb F' base nums beg ws log ∧ EntAt w' eb g t i false ∧ Keep (fun k => F k ∨ k = nb ∨ k = bb ∨ k = eb) w w' ∧ Foot w F F' ∧ ¬ F' eb

set_option maxRecDepth 100000 in
set_option maxHeartbeats 4000000 in
theorem fent_do (h : FSys w g nb bb mb F base nums beg ws log) (he : EntAt w eb g t i true) (hF : ¬ F eb) (x y : Int) (t0 : 0 ≤ t) (t1 : t < 64) (hx : nums[i]? = some x) (x0 : 0 ≤ x) (x1 : x < 1000000000000) (b0 : 0 ≤ base) (b1 : base < 1000000) (hn : nums.length < 1000000) (hy : ws[(base + i).toNat]? = some y) (hlog : log.length < 1000000000000) :
    Calls Try.prog 68 #[.pointer (some ⟨eb, 0, none⟩)] w fun e w' => e = .returned (.int .u8 13) ∧ FEntTo w g nb bb mb F base (nums.set i (x + 1)) (beg.set i false) (ws.set (base + i).toNat (x + 1)) (log ++ [⟨t, base + i, 2, y, x + 1, false⟩]) eb t i w' := by
  obtain ⟨c0, c1, c2, c3⟩ := he.cells
  have e1 : eb ≠ g := type_ne he h.eng.head (by decide)
  have e2 : eb ≠ nb := type_ne he h.eng.hnums (by decide)
  have e3 : eb ≠ bb := type_ne he h.eng.hbeg (by decide)
  have l0 := lt_of_at hx
  have lb := lt_of_block he
  have HA := hid (fadv_ok (h.keep (Keep.refl Nil w).drew (fun _ _ h => h) (fun h => h) (fun h => h) (fun h => h)) t i x y t0 t1 hx x0 x1 b0 b1 hn hy hlog)
  have H := hid h
  have E := hid he
  have HB := hid hF
  clear h he hx hy hF c3
  go_enter Try.func68, Try.ntmps68
  go_wp2
  go_still_tail 12, (by kernel_rfl)
  change wpList _ _ _ _ _ w.drew
  go_wp2_with fail
  refine HA.out.mono ?_
  rintro e w1 ⟨rfl, F1, hs1, hk1, hf1⟩
  have hnF : ¬ F1 eb := fun h => (hf1 eb h).elim HB.out (fun h => by simp at h; omega)
  have he1 : EntAt w1 eb g t i true := hk1.at (show w.drew.heap[eb]? = _ from E.out) (fun h => by rcases h with h | h | h; exact HB.out h; exact e2 h; exact e3 h)
  obtain ⟨a0, a1, a2, a3⟩ := he1.cells
  obtain ⟨k0, k1, k2, k3⟩ := hs1.eng.cells
  have zf : w1.frozen? ⟨bb, i, none⟩ = false := free_of hs1.eng.hbeg i
  have kb : ∃ b, w1.cell? ⟨bb, i, none⟩ = some (.bool b) := ⟨_, hs1.eng.begun (List.getElem?_eq_getElem (by rw [hs1.eng.len, List.length_set]; exact l0))⟩
  rw [List.length_set] at k3
  have S1 := hid hs1
  have E1 := hid he1
  have K1 := hid hk1
  have F1' := hid hf1
  have NF := hid hnF
  clear HA c0 c1 c2 hs1 he1 hk1 hf1 hnF a3 k0 k1 k2
  obtain ⟨b, kb⟩ := kb
  have zE : w1.frozen? ⟨eb, 3, none⟩ = false := free_of E1.out 3
  have cE := E1.out.cells.2.2.2
  simp only [entV] at cE
  go_wp2
  go_still_tail 12, (by kernel_rfl)
  change wpList _ _ _ _ _ w1.drew
  go_wp2
  go_ret
  have kW : Keep (fun k => k = bb ∨ k = eb) w1 ((w1.drew.setCell ⟨bb, i, none⟩ (.bool false)).setCell ⟨eb, 3, none⟩ .nilFunc) := Keep.setCell (Keep.setCell ((Keep.refl (fun k => k = bb ∨ k = eb) w1).drew) (.inl (.inl rfl)) _) (.inl (.inr rfl)) _
  refine ⟨rfl, F1, ⟨S1.out.mem.keep kW (fun k hF e => ?_), ?_, S1.out.f1, S1.out.f2, S1.out.f3⟩, ?_, ?_, F1'.out, NF.out⟩
  · rcases e with e | e
    · exact S1.out.f3 (by rw [← e]; exact hF)
    · exact NF.out (by rw [← e]; exact hF)
  · exact (eng_begun (w := w1.drew) (S1.out.eng.keep (Keep.refl Nil w1).drew (fun h => h) (fun h => h) (fun h => h)) false).keep (Keep.setCell (Keep.refl (fun k => k = eb) _) (.inl rfl) _) (fun h => e1 h.symm) (fun h => e2 h.symm) (fun h => e3 h.symm)
  · have hq : (w1.drew.setCell ⟨bb, i, none⟩ (.bool false)).heap[eb]? = _ := set_other (show w1.drew.heap[eb]? = _ from E1.out) e3 _
    exact set_same hq _
  · exact ((Keep.refl (fun k => F k ∨ k = nb ∨ k = bb ∨ k = eb) w).drew.trans (K1.out.mono (T := fun k => F k ∨ k = nb ∨ k = bb ∨ k = eb) (fun _ _ h => by rcases h with h | h | h; exact .inl h; exact .inr (.inl h); exact .inr (.inr (.inl h)))) (fun _ _ h => h)).trans (kW.mono (T := fun k => F k ∨ k = nb ∨ k = bb ∨ k = eb) (fun _ _ h => by rcases h with h | h; exact .inr (.inr (.inl h)); exact .inr (.inr (.inr h)))) (fun _ _ h => h)

set_option maxRecDepth 100000 in
set_option maxHeartbeats 2000000 in
theorem fent_step (h : FSys w g nb bb mb F base nums beg ws log) (he : EntAt w eb g t i true) (hF : ¬ F eb) (x y : Int) (t0 : 0 ≤ t) (t1 : t < 64) (hx : nums[i]? = some x) (x0 : 0 ≤ x) (x1 : x < 1000000000000) (b0 : 0 ≤ base) (b1 : base < 1000000) (hn : nums.length < 1000000) (hy : ws[(base + i).toNat]? = some y) (hlog : log.length < 1000000000000) :
    Calls Try.prog 43 #[.pointer (some ⟨eb, 0, none⟩)] w fun e w' => e = .returned (.tuple #[.int .u8 13, .bool true]) ∧ FEntTo w g nb bb mb F base (nums.set i (x + 1)) (beg.set i false) (ws.set (base + i).toNat (x + 1)) (log ++ [⟨t, base + i, 2, y, x + 1, false⟩]) eb t i w' := by
  have c3 := he.cells.2.2.2
  simp only [entV] at c3
  have HD := hid (fent_do h he hF x y t0 t1 hx x0 x1 b0 b1 hn hy hlog)
  clear h he hF hx hy hlog hn
  go_enter Try.func43, Try.ntmps43
  go_wp2_with fail
  refine HD.out.mono ?_
  rintro e w1 ⟨rfl, hq⟩
  have HQ := hid hq
  clear hq
  go_wp2
  go_ret2
  exact ⟨rfl, HQ.out⟩
set_option maxHeartbeats 1000000 in
theorem fent_idle (he : EntAt w eb g t i false) : Calls Try.prog 43 #[.pointer (some ⟨eb, 0, none⟩)] w fun e w' => e = .returned (.tuple #[.int .u8 0, .bool false]) ∧ w = w' := by
  have c3 := he.cells.2.2.2
  simp only [entV] at c3
  clear he
  go_enter Try.func43, Try.ntmps43
  go_wp2
  go_ret2
  exact ⟨rfl, rfl⟩
set_option maxHeartbeats 1000000 in
theorem fent_nil : Calls Try.prog 43 #[.pointer none] w fun e w' => e = .returned (.tuple #[.int .u8 0, .bool false]) ∧ w = w' := by
  go_enter Try.func43, Try.ntmps43
  go_wp2
  go_ret2
  exact ⟨rfl, rfl⟩
set_option maxHeartbeats 1000000 in
theorem fent_next (he : EntAt w eb g t i live) : Calls Try.prog 41 #[.pointer (some ⟨eb, 0, none⟩)] w fun e w' => e = .returned (.int .u8 (if live then 13 else 0)) ∧ w = w' := by
  have c3 := he.cells.2.2.2
  clear he
  cases live
  all_goals
    simp only [entV] at c3
    go_enter Try.func41, Try.ntmps41
    go_wp2
    go_ret
    exact ⟨rfl, rfl⟩
set_option maxHeartbeats 1000000 in
theorem fent_next_nil : Calls Try.prog 41 #[.pointer none] w fun e w' => e = .returned (.int .u8 0) ∧ w = w' := by
  go_enter Try.func41, Try.ntmps41
  go_wp2
  go_ret
  exact ⟨rfl, rfl⟩

/-! Exit. -/
set_option maxRecDepth 100000 in
set_option maxHeartbeats 2000000 in
theorem fexit_ok (h : FSys w g nb bb mb F base nums beg ws log) (x y : Int) (t0 : 0 ≤ t) (t1 : t < 64) (hx : nums[i]? = some x) (x0 : 0 ≤ x) (x1 : x < 1000000000000) (hodd : x % 2 = 1) (b0 : 0 ≤ base) (b1 : base < 1000000) (hn : nums.length < 1000000) (hy : ws[(base + i).toNat]? = some y) (hlog : log.length < 1000000000000) :
    Calls Try.prog 42 #[.pointer (some ⟨g, 0, none⟩), .int .i64 t, .int .i64 i] w fun e w' => e = .returned (.tuple #[.int .u8 13, .int .i64 0]) ∧ FSysTo w g nb bb mb F base (nums.set i (x + 1)) beg (ws.set (base + i).toNat (x + 1)) (log ++ [⟨t, base + i, 2, y, x + 1, false⟩]) w' := by
  have l0 := lt_of_at hx
  have HS := hid (fslot_ok h.eng t i t0 t1 (by omega) (by omega))
  have HI := hid (finside_any h.eng i x hx x0 true (by rw [hodd]; rfl))
  have HA := hid (fadv_ok h t i x y t0 t1 hx x0 x1 b0 b1 hn hy hlog)
  clear h hx hy hlog hn hodd
  go_enter Try.func42, Try.ntmps42
  go_wp2_with fail
  refine HS.out.mono ?_
  rintro e w' ⟨rfl, rfl⟩
  go_wp2_with fail
  refine HI.out.mono ?_
  rintro e w' ⟨rfl, rfl⟩
  go_wp2_with fail
  refine HA.out.mono ?_
  rintro e w1 ⟨rfl, hq⟩
  have HQ := hid hq
  clear hq
  go_wp2
  go_ret2
  exact ⟨rfl, HQ.out⟩
end
end Go.Proofs.Ytckopbjejjeknaa
