/- each: the methods of the engine: contracts. -/
import Derived.Test.YtihgfklajhhikaaEach1
import Derived.Test.YtihgfklajhhikaaEachPlain
import Derived.Test.YtihgfklajhhikaaFlat7
import Derived.Test.YtihgfklajhhikaaFuncNil
import Derived.StillTailTactics
import Derived.Deep.RegionHeld3
namespace Go.Proofs.Ytihgfklajhhikaa
open Go.RowKit Go.Lf

theorem type_ne {w : World} {b c : Nat} {x y : Array Value} {s t : TypeId} (h : w.heap[b]? = some (.cells x s (0, 0))) (k : w.heap[c]? = some (.cells y t (0, 0))) (hst : s ≠ t) : b ≠ c := by
  intro e; subst e; rw [h] at k
  simp only [Option.some.injEq, Obj.cells.injEq] at k
  exact hst k.2.1

/-- The engine and its memory. -/
structure ESys (w : World) (g sb cb mb : Nat) (F : Nat → Prop) (base : Int) (sl : List (Int × Bool)) (ws : List Int) (log : List Acc) : Prop where
  mem : MemAt w mb F ws log
  eng : EEngAt w g sb cb mb base sl
  f1 : ¬ F g
  f2 : ¬ F sb
  f3 : ¬ F cb
def ESysTo (w : World) (g sb cb mb : Nat) (F : Nat → Prop) (base : Int) (sl : List (Int × Bool)) (ws : List Int) (log : List Acc) (w' : World) : Prop :=
  ∃ F', ESys w' g sb cb mb F' base sl ws log ∧ Keep (fun k => F k ∨ k = sb) w w' ∧ Foot w F F'

section
variable {w : World} {g sb cb mb : Nat} {F : Nat → Prop} {base : Int} {sl : List (Int × Bool)} {ws : List Int} {log : List Acc}
theorem ESys.keep {w' : World} {S : Nat → Prop} (h : ESys w g sb cb mb F base sl ws log) (hk : Keep S w w') (hd : ∀ k, F k → ¬ S k) (h1 : ¬ S g) (h2 : ¬ S sb) (h3 : ¬ S cb) : ESys w' g sb cb mb F base sl ws log :=
  ⟨h.mem.keep hk hd, h.eng.keep hk h1 h2 h3, h.f1, h.f2, h.f3⟩
theorem ESys.quiet {w' : World} (h : ESys w g sb cb mb F base sl ws log) (hk : Keep Nil w w') : ESys w' g sb cb mb F base sl ws log := h.keep hk (fun _ _ h => h) (fun h => h) (fun h => h) (fun h => h)
theorem EEngAt.quiet {w' : World} (h : EEngAt w g sb cb mb base sl) (hk : Keep Nil w w') : EEngAt w' g sb cb mb base sl := h.keep hk (fun h => h) (fun h => h) (fun h => h)
theorem eeng_num (h : EEngAt w g sb cb mb base sl) {i : Nat} {x : Int} {b : Bool} (hx : sl[i]? = some (x, b)) (y : Int) : EEngAt (w.setCell ⟨sb, i * 2, none⟩ (.int .u64 y)) g sb cb mb base (sl.set i (y, b)) := by
  have k : Keep (fun k => k = sb) w (w.setCell ⟨sb, i * 2, none⟩ (.int .u64 y)) := Keep.setCell (Keep.refl (fun k => k = sb) w) (.inl rfl) _
  refine ⟨by rw [List.length_set]; exact k.at h.head h.n1, ?_, k.at h.cap h.n2, h.n1, h.n2⟩
  rw [set_same h.slots, ← show (eCells sl).set (i * 2 + 0) (.int .u64 y) = eCells (sl.set i (y, b)) from flatn_set (fun p : Int × Bool => [Value.int .u64 p.1, Value.bool p.2]) 2 (fun _ => rfl) sl hx (by decide) _ rfl]
  simp
theorem eeng_beg (h : EEngAt w g sb cb mb base sl) {i : Nat} {x : Int} {b : Bool} (hx : sl[i]? = some (x, b)) (y : Bool) : EEngAt (w.setCell ⟨sb, i * 2 + 1, none⟩ (.bool y)) g sb cb mb base (sl.set i (x, y)) := by
  have k : Keep (fun k => k = sb) w (w.setCell ⟨sb, i * 2 + 1, none⟩ (.bool y)) := Keep.setCell (Keep.refl (fun k => k = sb) w) (.inl rfl) _
  refine ⟨by rw [List.length_set]; exact k.at h.head h.n1, ?_, k.at h.cap h.n2, h.n1, h.n2⟩
  rw [set_same h.slots, ← show (eCells sl).set (i * 2 + 1) (.bool y) = eCells (sl.set i (x, y)) from flatn_set (fun p : Int × Bool => [Value.int .u64 p.1, Value.bool p.2]) 2 (fun _ => rfl) sl hx (by decide) _ rfl]
  simp

set_option maxHeartbeats 400000 in
theorem eat_ok {cb : Nat} {base : Int} (hc : w.cell? ⟨cb, 0, none⟩ = some (.int .i64 base)) (b0 : 0 ≤ base) (b1 : base < 1000000) (i : Nat) (hi : i < 1000000) :
    Calls Try.prog 68 #[.int .i64 i, .pointer (some ⟨cb, 0, none⟩)] w fun e w' => e = .returned (.int .i64 (base + 2 * i)) ∧ w = w' := by
  go_enter Try.func68, Try.ntmps68
  go_wp2
  go_ret
  exact ⟨rfl, rfl⟩

set_option maxHeartbeats 400000 in
theorem ethread_nil (t : Int) : Calls Try.prog 74 #[.pointer none, .int .i64 t] w fun e w' => e = .returned (.int .i64 1) ∧ w = w' := by
  go_enter Try.func74, Try.ntmps74
  go_wp2
  go_ret
  exact ⟨rfl, rfl⟩
set_option maxHeartbeats 400000 in
theorem ethread_no (g : Nat) (t : Int) (h : t < 0 ∨ 64 ≤ t) : Calls Try.prog 74 #[.pointer (some ⟨g, 0, none⟩), .int .i64 t] w fun e w' => e = .returned (.int .i64 2) ∧ w = w' := by
  by_cases h1 : t < 0
  · have d1 : decide (t < 0) = true := decide_eq_true h1
    clear h h1
    go_enter Try.func74, Try.ntmps74
    go_wp2
    go_ret
    exact ⟨rfl, rfl⟩
  · have d1 : decide (t < 0) = false := decide_eq_false h1
    have d2 : decide (64 ≤ t) = true := decide_eq_true (by omega)
    clear h h1
    go_enter Try.func74, Try.ntmps74
    go_wp2
    go_ret
    exact ⟨rfl, rfl⟩
set_option maxHeartbeats 400000 in
theorem ethread_ok (g : Nat) (t : Int) (h0 : 0 ≤ t) (h1 : t < 64) : Calls Try.prog 74 #[.pointer (some ⟨g, 0, none⟩), .int .i64 t] w fun e w' => e = .returned (.int .i64 0) ∧ w = w' := by
  have d1 : decide (t < 0) = false := decide_eq_false (by omega)
  have d2 : decide (64 ≤ t) = false := decide_eq_false (by omega)
  go_enter Try.func74, Try.ntmps74
  go_wp2
  go_ret
  exact ⟨rfl, rfl⟩

set_option maxHeartbeats 400000 in
theorem eslot_nil (t s : Int) : Calls Try.prog 71 #[.pointer none, .int .i64 t, .int .i64 s] w fun e w' => e = .returned (.tuple #[.pointer none, .int .i64 1]) ∧ w = w' := by
  go_enter Try.func71, Try.ntmps71
  go_wp2_with fail
  refine (ethread_nil _).mono ?_
  rintro e w' ⟨rfl, rfl⟩
  go_wp2
  go_ret2
  exact ⟨rfl, rfl⟩
set_option maxHeartbeats 400000 in
theorem eslot_two (g : Nat) (t s : Int) (h : t < 0 ∨ 64 ≤ t) : Calls Try.prog 71 #[.pointer (some ⟨g, 0, none⟩), .int .i64 t, .int .i64 s] w fun e w' => e = .returned (.tuple #[.pointer none, .int .i64 2]) ∧ w = w' := by
  have H := hid h
  clear h
  go_enter Try.func71, Try.ntmps71
  go_wp2_with fail
  refine (ethread_no _ _ H.out).mono ?_
  rintro e w' ⟨rfl, rfl⟩
  go_wp2
  go_ret2
  exact ⟨rfl, rfl⟩
set_option maxHeartbeats 400000 in
theorem eslot_three (h : EEngAt w g sb cb mb base sl) (t s : Int) (h0 : 0 ≤ t) (h1 : t < 64) (hs : s < 0 ∨ (sl.length : Int) ≤ s) : Calls Try.prog 71 #[.pointer (some ⟨g, 0, none⟩), .int .i64 t, .int .i64 s] w fun e w' => e = .returned (.tuple #[.pointer none, .int .i64 3]) ∧ w = w' := by
  obtain ⟨c0, c1, c2, c3⟩ := h.cells
  have HT := hid (@ethread_ok w g t h0 h1)
  clear h c0 c2 c3
  by_cases h2 : s < 0
  · have d1 : decide (s < 0) = true := decide_eq_true h2
    clear hs h2
    go_enter Try.func71, Try.ntmps71
    go_wp2_with fail
    refine HT.out.mono ?_
    rintro e w' ⟨rfl, rfl⟩
    go_wp2
    go_ret2
    exact ⟨rfl, rfl⟩
  · have d1 : decide (s < 0) = false := decide_eq_false h2
    have d2 : decide ((sl.length : Int) ≤ s) = true := decide_eq_true (by omega)
    clear hs h2
    go_enter Try.func71, Try.ntmps71
    go_wp2_with fail
    refine HT.out.mono ?_
    rintro e w' ⟨rfl, rfl⟩
    go_wp2
    go_ret2
    exact ⟨rfl, rfl⟩
set_option maxHeartbeats 400000 in
theorem eslot_ok (h : EEngAt w g sb cb mb base sl) (t : Int) (i : Nat) (h0 : 0 ≤ t) (h1 : t < 64) (s1 : i < sl.length) : Calls Try.prog 71 #[.pointer (some ⟨g, 0, none⟩), .int .i64 t, .int .i64 i] w fun e w' => e = .returned (.tuple #[.pointer (some ⟨sb, i * 2, none⟩), .int .i64 0]) ∧ w = w' := by
  obtain ⟨c0, c1, c2, c3⟩ := h.cells
  have HT := hid (@ethread_ok w g t h0 h1)
  have d1 : decide ((i : Int) < 0) = false := decide_eq_false (by omega)
  have d2 : decide ((sl.length : Int) ≤ (i : Int)) = false := decide_eq_false (by omega)
  have s0 : (0 : Int) ≤ (i : Int) := by omega
  have s2 : (i : Int) < (sl.length : Int) := by omega
  clear h c0 c2 c3
  go_enter Try.func71, Try.ntmps71
  go_wp2_with fail
  refine HT.out.mono ?_
  rintro e w' ⟨rfl, rfl⟩
  go_wp2
  go_ret2
  exact ⟨rfl, rfl⟩

set_option maxRecDepth 100000 in
set_option maxHeartbeats 4000000 in
theorem eadv_ok (h : ESys w g sb cb mb F base sl ws log) (t : Int) (i : Nat) (x y : Int) (b : Bool) (t0 : 0 ≤ t) (t1 : t < 64) (hx : sl[i]? = some (x, b)) (x0 : 0 ≤ x) (x1 : x < 1000000000000) (b0 : 0 ≤ base) (b1 : base < 1000000) (hn : sl.length < 1000000) (hy : ws[(base + 2 * i).toNat]? = some y) (hlog : log.length < 1000000000000) :
    Calls Try.prog 78 #[.pointer (some ⟨g, 0, none⟩), .int .i64 t, .int .i64 i] w fun e w' => e = .returned (.tuple #[]) ∧ ESysTo w g sb cb mb F base (sl.set i (x + 1, b)) (ws.set (base + 2 * i).toNat (x + 1)) (log ++ [⟨t, base + 2 * i, 2, y, x + 1, false⟩]) w' := by
  obtain ⟨c0, c1, c2, c3⟩ := h.eng.cells
  obtain ⟨cx, -⟩ := h.eng.slot hx
  have l0 := lt_of_at hx
  have zf : w.frozen? ⟨sb, i * 2, none⟩ = false := free_of h.eng.slots _
  have H := hid h
  have hw : IntKind.u64.wrap (x + 1) = x + 1 := by rw [IntKind.wrap_u64]; omega
  have HY := hid hy
  have HX := hid hx
  clear h hy hx c0 c2 c3
  go_enter Try.func78, Try.ntmps78
  go_wp2
  obtain ⟨W, hW⟩ : ∃ W, W = w.setCell ⟨sb, i * 2, none⟩ (.int .u64 (x + 1)) := ⟨_, rfl⟩
  rw [← hW]
  have kW : Keep (fun k => k = sb) w W := by rw [hW]; exact Keep.setCell (Keep.refl (fun k => k = sb) w) (.inl rfl) _
  have eW : EEngAt W g sb cb mb base (sl.set i (x + 1, b)) := by rw [hW]; exact eeng_num H.out.eng HX.out _
  have mW : MemAt W mb F ws log := H.out.mem.keep kW (fun k hF e => H.out.f2 (by rw [← e]; exact hF))
  obtain ⟨d0, d1, d2, d3⟩ := eW.cells
  have dx := (eW.slot (put_self HX.out _)).1
  rw [List.length_set] at d1
  have KD := hid ((Keep.refl Nil W).drew)
  have EW := hid eW
  have MW := hid mW
  have KW := hid kW
  have D3 := hid d3
  clear hW c1 cx zf eW mW kW
  go_region_held3 (fun w' => w'.cell? ⟨g, 0, none⟩ = some (.pointer (some ⟨mb, 0, none⟩)) ∧ w'.cell? ⟨g, 1, none⟩ = some (.slice (some ⟨sb, 0, none⟩) sl.length sl.length) ∧ w'.cell? ⟨g, 2, none⟩ = some (.func (.func 68) #[] #[.pointer (some ⟨cb, 0, none⟩)]) ∧ w'.cell? ⟨sb, i * 2, none⟩ = some (.int .u64 (x + 1))) (go_keep)
    (first
      | (go_at_call 68; (with_reducible refine (eat_ok (KD.out.cell D3.out (fun h => h)) b0 b1 i (by omega)).mono ?_); rintro e w1 ⟨rfl, rfl⟩)
      | (go_at_call 114; (with_reducible refine (store_ok (MW.out.keep KD.out (fun _ _ h => h)) t (base + 2 * i) y (x + 1) t0 t1 (by omega) HY.out hlog).mono ?_); rintro e w2 ⟨rfl, F2, hm2, k2, f2⟩; have e2 := (EW.out.quiet KD.out).keep k2 H.out.f1 H.out.f2 H.out.f3; obtain ⟨p0, p1, p2, p3⟩ := e2.cells; have px := (e2.slot (put_self HX.out _)).1; rw [List.length_set] at p1; have M2 := hid hm2; have K2 := hid k2; have F2' := hid f2; have E2 := hid e2; clear hm2 k2 f2 e2 p3))
  have k2' : Keep F W w2 := ((Keep.refl F W).drew).trans K2.out (fun _ _ h => h)
  have hs : ESys w2 g sb cb mb F2 base (sl.set i (x + 1, b)) (ws.set (base + 2 * i).toNat (x + 1)) (log ++ [⟨t, base + 2 * i, 2, y, x + 1, false⟩]) := by
    have n1 : ∀ b : Nat, ¬ F b → b < w.heap.size → ¬ F2 b := fun b hb hl hF => (F2'.out b hF).elim hb (fun h => by have := KW.out.size; simp at h; omega)
    exact ⟨M2.out, E2.out, n1 g H.out.f1 (lt_of_block H.out.eng.head), n1 sb H.out.f2 (lt_of_block H.out.eng.slots), n1 cb H.out.f3 (lt_of_block H.out.eng.cap)⟩
  have hk : Keep (fun k => F k ∨ k = sb) w w2 := (KW.out.mono (fun _ _ h => .inr h)).trans (k2'.mono (T := fun k => F k ∨ k = sb) (fun _ _ h => .inl h)) (fun _ _ h => h)
  have HS := hid hs
  have HK := hid hk
  have HF := hid (show Foot w F F2 from fun k hF => (F2'.out k hF).elim .inl (fun h => .inr (by have := KW.out.size; simp at h; omega)))
  clear k2' hs hk
  go_wp2
  go_end0
  exact ⟨rfl, F2, HS.out, HK.out, HF.out⟩
end
end Go.Proofs.Ytihgfklajhhikaa
