/- leapfrogref17: the steps of an Enter, Exit, Wait and Open: contracts. -/
import Derived.Test.YtihgfklajhhikaaRefEach
namespace Go.Proofs.Ytihgfklajhhikaa
open Go.RowKit Go.Lf
section
variable {w : World} {h sb rb : Nat} {G : Nat → Prop} {base : Int} {sl : List (Int × Bool × Bool)} {ws : List Int} {log : List Acc} {eb wb : Nat} {t v x set rs : Int} {i k : Nat} {s : EWS}

set_option maxHeartbeats 1000000 in
theorem rfent_next (he : REntAt w eb h t i v k) : Calls Try.prog 82 #[.pointer (some ⟨eb, 0, none⟩)] w fun e w' => e = .returned (.int .u8 (epc k)) ∧ w = w' := by
  have c3 := he.cells.2.2.2.2
  clear he
  go_enter Try.func82, Try.ntmps82
  go_wp2
  go_ret
  exact ⟨rfl, rfl⟩
/-- The reference's Enter has made a step. -/
def RFEntTo (w : World) (h sb rb : Nat) (G : Nat → Prop) (base : Int) (sl : List (Int × Bool × Bool)) (ws : List Int) (log : List Acc) (eb : Nat) (t : Int) (i : Nat) (v : Int) (k : Nat) (w' : World) : Prop :=
  ∃ G', RSys w' h sb rb G' base sl ws log ∧ REntAt w' eb h t i v k ∧ Keep (fun k => G k ∨ k = sb ∨ k = eb) w w' ∧ Foot w G G' ∧ ¬ G' eb
set_option maxRecDepth 100000 in
set_option maxHeartbeats 4000000 in
theorem rfent_mark (hs : RSys w h sb rb G base sl ws log) (he : REntAt w eb h t i v 0) (hF : ¬ G eb) (y : Int) (t0 : 0 ≤ t) (t1 : t < 64) (v0 : 0 ≤ v) (v1 : v < 64) (hi : i < 1000000) (b0 : 0 ≤ base) (b1 : base < 1000000) (hy : ws[(base + 2 * i + 1).toNat]? = some y) (hlog : log.length < 1000000000000) :
    Calls Try.prog 84 #[.pointer (some ⟨eb, 0, none⟩)] w fun e w' => e = .returned (.tuple #[.int .u8 14, .bool false]) ∧ RFEntTo w h sb rb G base sl (ws.set (base + 2 * i + 1).toNat v) (log ++ [⟨t, base + 2 * i + 1, 2, y, v, false⟩]) eb t i v 1 w' := by
  obtain ⟨c0, c1, c2, c3, c4⟩ := he.cells
  obtain ⟨k0, k1, k2⟩ := hs.eng.cells
  have e1 : eb ≠ h := type_ne he hs.eng.head (by decide)
  have e2 : eb ≠ sb := type_ne he hs.eng.slots (by decide)
  have lb := lt_of_block he
  have NX := hid (show Calls Try.prog 82 #[.pointer (some ⟨eb, 0, none⟩)] w fun e w' => e = .returned (.int .u8 14) ∧ w = w' from rfent_next he)
  have hw : IntKind.u64.wrap v = v := by rw [IntKind.wrap_u64]; omega
  have hw1 : IntKind.i64.wrap (2 * (i : Int)) = 2 * i := by rw [IntKind.wrap_i64]; omega
  have hw3 : IntKind.i64.wrap (base + 2 * i) = base + 2 * i := by rw [IntKind.wrap_i64]; omega
  have hw2 : IntKind.i64.wrap (base + 2 * i + 1) = base + 2 * i + 1 := by rw [IntKind.wrap_i64]; omega
  have H := hid hs
  have E := hid he
  have HB := hid hF
  have HY := hid hy
  clear hs he hy hF c4 k2
  go_enter Try.func84, Try.ntmps84
  go_wp2_with fail
  refine NX.out.mono ?_
  rintro e w' ⟨rfl, rfl⟩
  go_wp2
  go_still_tail 30, (by kernel_rfl)
  change wpList _ _ _ _ _ w.drew
  go_wp2_with fail
  refine (rstore_ok (H.out.mem.keep (Keep.refl Nil w).drew (fun _ _ h => h)) t (base + 2 * i + 1) y v t0 t1 (by omega) HY.out hlog).mono ?_
  rintro e w1 ⟨rfl, F1, hm1, hk1, hf1⟩
  have n1 : ∀ b : Nat, ¬ G b → b < w.heap.size → ¬ F1 b := fun b hb hl hF => (hf1 b hF).elim hb (fun h => by simp at h; omega)
  have k0' : Keep G w w1 := ((Keep.refl G w).drew).trans hk1 (fun _ _ h => h)
  have he1 : REntAt w1 eb h t i v 0 := k0'.at E.out HB.out
  have hg1 := H.out.eng.keep k0' H.out.f1 H.out.f2
  have a4 := he1.cells.2.2.2.2
  have zE : w1.frozen? ⟨eb, 4, none⟩ = false := free_of he1 4
  have kW : Keep (fun k => k = eb) w1 (w1.setCell ⟨eb, 4, none⟩ (.int .u8 13)) := Keep.setCell (Keep.refl (fun k => k = eb) w1) (.inl rfl) _
  have HR := hid (show RFEntTo w h sb rb G base sl (ws.set (base + 2 * i + 1).toNat v) (log ++ [⟨t, base + 2 * i + 1, 2, y, v, false⟩]) eb t i v 1 (w1.setCell ⟨eb, 4, none⟩ (.int .u8 13)) from
    ⟨F1, ⟨hm1.keep kW (fun k hk e => n1 eb HB.out lb (by rw [← e]; exact hk)), hg1.keep kW (fun e => e1 e.symm) (fun e => e2 e.symm), n1 h H.out.f1 (lt_of_block H.out.eng.head), n1 sb H.out.f2 (lt_of_block H.out.eng.slots)⟩, set_same he1 _,
      (k0'.mono (T := fun k => G k ∨ k = sb ∨ k = eb) (fun _ _ h => .inl h)).trans (kW.mono (T := fun k => G k ∨ k = sb ∨ k = eb) (fun _ _ h => .inr (.inr h))) (fun _ _ h => h), fun k hk => (hf1 k hk).elim .inl (fun h => .inr (by simpa using h)), n1 eb HB.out lb⟩)
  simp only [epc] at a4
  clear hm1 hk1 hf1 n1 k0' he1 hg1 kW
  go_wp2
  go_ret2
  exact ⟨rfl, HR.out⟩
set_option maxRecDepth 100000 in
set_option maxHeartbeats 4000000 in
theorem rfent_seq (hs : RSys w h sb rb G base sl ws log) (he : REntAt w eb h t i v 1) (hF : ¬ G eb) (x y : Int) {b d : Bool} (t0 : 0 ≤ t) (t1 : t < 64) (hx : sl[i]? = some (x, b, d)) (x0 : 0 ≤ x) (x1 : x < 1000000000000) (b0 : 0 ≤ base) (b1 : base < 1000000) (hn : sl.length < 1000000) (hy : ws[(base + 2 * i).toNat]? = some y) (hlog : log.length < 1000000000000) :
    Calls Try.prog 84 #[.pointer (some ⟨eb, 0, none⟩)] w fun e w' => e = .returned (.tuple #[.int .u8 13, .bool true]) ∧ RFEntTo w h sb rb G base (sl.set i (x + 1, b, true)) (ws.set (base + 2 * i).toNat (x + 1)) (log ++ [⟨t, base + 2 * i, 2, y, x + 1, false⟩]) eb t i v 2 w' := by
  obtain ⟨c0, c1, c2, c3, c4⟩ := he.cells
  have e1 : eb ≠ h := type_ne he hs.eng.head (by decide)
  have e2 : eb ≠ sb := type_ne he hs.eng.slots (by decide)
  have l0 := lt_of_at hx
  have lb := lt_of_block he
  have NX := hid (show Calls Try.prog 82 #[.pointer (some ⟨eb, 0, none⟩)] w fun e w' => e = .returned (.int .u8 13) ∧ w = w' from rfent_next he)
  have HA := hid (rfstore_ok (hs.quiet (Keep.refl Nil w).drew) t i x y t0 t1 hx x0 x1 b0 b1 hn hy hlog)
  have H := hid hs
  have E := hid he
  have HB := hid hF
  have HX := hid hx
  clear hs he hx hy hF c3 c4
  go_enter Try.func84, Try.ntmps84
  go_wp2_with fail
  refine NX.out.mono ?_
  rintro e w' ⟨rfl, rfl⟩
  go_wp2
  go_still_tail 12, (by kernel_rfl)
  change wpList _ _ _ _ _ w.drew
  go_wp2_with fail
  refine HA.out.mono ?_
  rintro e w1 ⟨rfl, F1, hs1, hk1, hf1⟩
  have hnF : ¬ F1 eb := fun h => (hf1 eb h).elim HB.out (fun h => by simp at h; omega)
  have he1 : REntAt w1 eb h t i v 1 := hk1.at (show w.drew.heap[eb]? = _ from E.out) (fun h => by rcases h with h | h; exact HB.out h; exact e2 h)
  obtain ⟨a0, a1, a2, a3, a4⟩ := he1.cells
  obtain ⟨k0, k1, k2⟩ := hs1.eng.cells
  have zf : w1.frozen? ⟨sb, i * 3 + 2, none⟩ = false := free_of hs1.eng.slots _
  have kb := (hs1.eng.slot (put_self HX.out _)).2.2
  rw [List.length_set] at k2
  have zE : w1.frozen? ⟨eb, 4, none⟩ = false := free_of he1 4
  have z0 : (0 : Int) ≤ (i : Int) := by omega
  have z1 : (i : Int) < (sl.length : Int) := by omega
  have s1 := reng_set (w := w1.drew) (hs1.eng.quiet (Keep.refl Nil w1).drew) (put_self HX.out _) (j := 2) (by decide) (.bool true) (p' := (x + 1, b, true)) rfl
  rw [List.set_set] at s1
  have kW : Keep (fun k => k = sb ∨ k = eb) w1 ((w1.drew.setCell ⟨sb, i * 3 + 2, none⟩ (.bool true)).setCell ⟨eb, 4, none⟩ (.int .u8 0)) := Keep.setCell (Keep.setCell ((Keep.refl (fun k => k = sb ∨ k = eb) w1).drew) (.inl (.inl rfl)) _) (.inl (.inr rfl)) _
  have hres : RFEntTo w h sb rb G base (sl.set i (x + 1, b, true)) (ws.set (base + 2 * i).toNat (x + 1)) (log ++ [⟨t, base + 2 * i, 2, y, x + 1, false⟩]) eb t i v 2 ((w1.drew.setCell ⟨sb, i * 3 + 2, none⟩ (.bool true)).setCell ⟨eb, 4, none⟩ (.int .u8 0)) := by
    refine ⟨F1, ⟨hs1.mem.keep kW (fun k hF e => ?_), s1.keep (Keep.setCell (Keep.refl (fun k => k = eb) _) (.inl rfl) _) (fun e => e1 e.symm) (fun e => e2 e.symm), hs1.f1, hs1.f2⟩, ?_, ?_, fun k hk => (hf1 k hk).elim .inl (fun h => .inr (by simpa using h)), hnF⟩
    · rcases e with e | e
      · exact hs1.f2 (by rw [← e]; exact hF)
      · exact hnF (by rw [← e]; exact hF)
    · have hq : (w1.drew.setCell ⟨sb, i * 3 + 2, none⟩ (.bool true)).heap[eb]? = _ := set_other (show w1.drew.heap[eb]? = _ from he1) e2 _
      exact set_same hq _
    · exact ((Keep.refl (fun k => G k ∨ k = sb ∨ k = eb) w).drew.trans (hk1.mono (T := fun k => G k ∨ k = sb ∨ k = eb) (fun _ _ h => by rcases h with h | h; exact .inl h; exact .inr (.inl h))) (fun _ _ h => h)).trans (kW.mono (T := fun k => G k ∨ k = sb ∨ k = eb) (fun _ _ h => .inr h)) (fun _ _ h => h)
  have HR := hid hres
  clear HA c0 c1 c2 hs1 he1 hk1 hf1 hnF k0 k1 a1 a3 s1 kW hres
  simp only [epc] at a4
  go_wp2
  go_still_tail 13, (by kernel_rfl)
  change wpList _ _ _ _ _ w1.drew
  go_wp2
  go_ret2
  exact ⟨rfl, HR.out⟩
set_option maxHeartbeats 1000000 in
theorem rfent_idle (he : REntAt w eb h t i v 2) : Calls Try.prog 84 #[.pointer (some ⟨eb, 0, none⟩)] w fun e w' => e = .returned (.tuple #[.int .u8 0, .bool false]) ∧ w = w' := by
  have NX := hid (show Calls Try.prog 82 #[.pointer (some ⟨eb, 0, none⟩)] w fun e w' => e = .returned (.int .u8 0) ∧ w = w' from rfent_next he)
  clear he
  go_enter Try.func84, Try.ntmps84
  go_wp2_with fail
  refine NX.out.mono ?_
  rintro e w' ⟨rfl, rfl⟩
  go_wp2
  go_ret2
  exact ⟨rfl, rfl⟩

/-! Exit. -/
def exE (t s : Int) (n : Nat) (d : Bool) : Int := if t < 0 ∨ 64 ≤ t then 2 else if s < 0 ∨ (n : Int) ≤ s then 3 else if d then 0 else 8
set_option maxHeartbeats 2000000 in
theorem rfexit_thread (h : Nat) (t s0 : Int) (ht : t < 0 ∨ 64 ≤ t) :
    Calls Try.prog 41 #[.pointer (some ⟨h, 0, none⟩), .int .i64 t, .int .i64 s0] w fun e w' => e = .returned (.tuple #[.int .u8 0, .int .i64 2]) ∧ w = w' := by
  have HT := hid (thread_no t ht w)
  clear ht
  go_enter Try.func41, Try.ntmps41
  go_wp2_with fail
  refine HT.out.mono ?_
  rintro e w' ⟨rfl, rfl⟩
  go_wp2
  go_ret2
  exact ⟨rfl, rfl⟩
set_option maxHeartbeats 2000000 in
theorem rfexit_slot (he : REngAt w h sb rb base sl) (t0 : 0 ≤ t) (t1 : t < 64) (s0 : Int) (hs : s0 < 0 ∨ (sl.length : Int) ≤ s0) :
    Calls Try.prog 41 #[.pointer (some ⟨h, 0, none⟩), .int .i64 t, .int .i64 s0] w fun e w' => e = .returned (.tuple #[.int .u8 0, .int .i64 3]) ∧ w = w' := by
  obtain ⟨c0, c1, c2⟩ := he.cells
  have HT := hid (thread_yes t t0 t1 w)
  clear he c0 c1
  by_cases h1 : s0 < 0
  · have d1 : decide (s0 < 0) = true := decide_eq_true h1
    clear hs h1
    go_enter Try.func41, Try.ntmps41
    go_wp2_with fail
    refine HT.out.mono ?_
    rintro e w' ⟨rfl, rfl⟩
    go_wp2
    go_ret2
    exact ⟨rfl, rfl⟩
  · have d1 : decide (s0 < 0) = false := decide_eq_false h1
    have d2 : decide ((sl.length : Int) ≤ s0) = true := decide_eq_true (by omega)
    clear hs h1
    go_enter Try.func41, Try.ntmps41
    go_wp2_with fail
    refine HT.out.mono ?_
    rintro e w' ⟨rfl, rfl⟩
    go_wp2
    go_ret2
    exact ⟨rfl, rfl⟩
set_option maxHeartbeats 2000000 in
theorem rfexit_state (he : REngAt w h sb rb base sl) (t0 : 0 ≤ t) (t1 : t < 64) {b : Bool} (hx : sl[i]? = some (x, b, false)) :
    Calls Try.prog 41 #[.pointer (some ⟨h, 0, none⟩), .int .i64 t, .int .i64 i] w fun e w' => e = .returned (.tuple #[.int .u8 0, .int .i64 8]) ∧ w = w' := by
  obtain ⟨c0, c1, c2⟩ := he.cells
  obtain ⟨s1, s2, s3⟩ := he.slot hx
  have l0 := lt_of_at hx
  have HT := hid (thread_yes t t0 t1 w)
  have d1 : decide ((i : Int) < 0) = false := decide_eq_false (by omega)
  have d2 : decide ((sl.length : Int) ≤ (i : Int)) = false := decide_eq_false (by omega)
  have z0 : (0 : Int) ≤ (i : Int) := by omega
  have z1 : (i : Int) < (sl.length : Int) := by omega
  clear he hx c0 c1
  go_enter Try.func41, Try.ntmps41
  go_wp2_with fail
  refine HT.out.mono ?_
  rintro e w' ⟨rfl, rfl⟩
  go_wp2
  go_ret2
  exact ⟨rfl, rfl⟩
set_option maxRecDepth 100000 in
set_option maxHeartbeats 4000000 in
theorem rfexit_ok (hs : RSys w h sb rb G base sl ws log) (x y : Int) {b : Bool} (t0 : 0 ≤ t) (t1 : t < 64) (hx : sl[i]? = some (x, b, true)) (x0 : 0 ≤ x) (x1 : x < 1000000000000) (b0 : 0 ≤ base) (b1 : base < 1000000) (hn : sl.length < 1000000) (hy : ws[(base + 2 * i).toNat]? = some y) (hlog : log.length < 1000000000000) :
    Calls Try.prog 41 #[.pointer (some ⟨h, 0, none⟩), .int .i64 t, .int .i64 i] w fun e w' => e = .returned (.tuple #[.int .u8 13, .int .i64 0]) ∧ RSysTo w h sb rb G base (sl.set i (x + 1, false, false)) (ws.set (base + 2 * i).toNat (x + 1)) (log ++ [⟨t, base + 2 * i, 2, y, x + 1, false⟩]) w' := by
  obtain ⟨c0, c1, c2⟩ := hs.eng.cells
  obtain ⟨s1, s2, s3⟩ := hs.eng.slot hx
  have l0 := lt_of_at hx
  have HT := hid (thread_yes t t0 t1 w)
  have d1 : decide ((i : Int) < 0) = false := decide_eq_false (by omega)
  have d2 : decide ((sl.length : Int) ≤ (i : Int)) = false := decide_eq_false (by omega)
  have z0 : (0 : Int) ≤ (i : Int) := by omega
  have z1 : (i : Int) < (sl.length : Int) := by omega
  have HA := hid (rfstore_ok hs t i x y t0 t1 hx x0 x1 b0 b1 hn hy hlog)
  have H := hid hs
  have HX := hid hx
  clear hs hx hy c0 c1
  go_enter Try.func41, Try.ntmps41
  go_wp2_with fail
  refine HT.out.mono ?_
  rintro e w' ⟨rfl, rfl⟩
  go_wp2_with fail
  refine HA.out.mono ?_
  rintro e w1 ⟨rfl, F1, hs1, hk1, hf1⟩
  obtain ⟨k0, k1, k2⟩ := hs1.eng.cells
  rw [List.length_set] at k2
  obtain ⟨-, kb1, kb2⟩ := hs1.eng.slot (put_self HX.out _)
  have zf1 : w1.frozen? ⟨sb, i * 3 + 1, none⟩ = false := free_of hs1.eng.slots _
  have zf2 : w1.frozen? ⟨sb, i * 3 + 2, none⟩ = false := free_of hs1.eng.slots _
  have hsb := lt_of_block hs1.eng.slots
  have p1 := reng_set (w := w1.drew) (hs1.eng.quiet (Keep.refl Nil w1).drew) (put_self HX.out _) (j := 1) (by decide) (.bool false) (p' := (x + 1, false, true)) rfl
  rw [List.set_set] at p1
  have p2 := reng_set p1 (put_self HX.out _) (j := 2) (by decide) (.bool false) (p' := (x + 1, false, false)) rfl
  rw [List.set_set] at p2
  have kW : Keep (fun k => k = sb) w1 ((w1.drew.setCell ⟨sb, i * 3 + 1, none⟩ (.bool false)).setCell ⟨sb, i * 3 + 2, none⟩ (.bool false)) := Keep.setCell (Keep.setCell ((Keep.refl (fun k => k = sb) w1).drew) (.inl rfl) _) (.inl rfl) _
  have HR := hid (show RSysTo w h sb rb G base (sl.set i (x + 1, false, false)) (ws.set (base + 2 * i).toNat (x + 1)) (log ++ [⟨t, base + 2 * i, 2, y, x + 1, false⟩]) ((w1.drew.setCell ⟨sb, i * 3 + 1, none⟩ (.bool false)).setCell ⟨sb, i * 3 + 2, none⟩ (.bool false)) from
    ⟨F1, ⟨hs1.mem.keep kW (fun k hF e => hs1.f2 (by rw [← e]; exact hF)), p2, hs1.f1, hs1.f2⟩, hk1.trans (kW.mono (T := fun k => G k ∨ k = sb) (fun _ _ h => .inr h)) (fun _ _ h => h), hf1⟩)
  clear HA c2 s1 s2 s3 hs1 hk1 hf1 k0 k1 p1 p2 kW
  go_wp2
  go_region_law (fail)
  all_goals
    go_wp2
    go_ret2
    exact ⟨rfl, HR.out⟩

/-! Wait. -/
def RFWaitTo (w : World) (h : Nat) (t set : Int) (e : Ending) (w' : World) : Prop :=
  e = .returned (.tuple #[.pointer (some ⟨w.heap.size, 0, none⟩), .int .i64 0]) ∧ RWaitAt w' w.heap.size h t set ⟨0, 0, 0⟩ 0 ∧ Keep Nil w w' ∧ w'.heap.size = w.heap.size + 1
set_option maxHeartbeats 1000000 in
theorem rfwait_ok (h : Nat) (t0 : 0 ≤ t) (t1 : t < 64) (hx : x ≠ 0) : Calls Try.prog 42 #[.pointer (some ⟨h, 0, none⟩), .int .i64 t, .int .u64 x] w (RFWaitTo w h t x) := by
  have HT := hid (thread_yes t t0 t1 w)
  have d1 : (x == 0) = false := beq_eq_false_iff_ne.2 hx
  clear hx
  go_enter Try.func42, Try.ntmps42
  go_wp2_with fail
  refine HT.out.mono ?_
  rintro e w' ⟨rfl, rfl⟩
  go_wp2
  go_ret2
  exact ⟨rfl, heap_alloc_new w _, (Keep.refl Nil w).alloc _, by simp⟩
set_option maxHeartbeats 1000000 in
theorem rfwait_err (h : Nat) (hx : (t < 0 ∨ 64 ≤ t) ∨ x = 0) : Calls Try.prog 42 #[.pointer (some ⟨h, 0, none⟩), .int .i64 t, .int .u64 x] w fun e w' => e = .returned (.tuple #[.pointer none, .int .i64 2]) ∧ w = w' := by
  by_cases ht : t < 0 ∨ 64 ≤ t
  · have HT := hid (thread_no t ht w)
    clear hx ht
    go_enter Try.func42, Try.ntmps42
    go_wp2_with fail
    refine HT.out.mono ?_
    rintro e w' ⟨rfl, rfl⟩
    go_wp2
    go_ret2
    exact ⟨rfl, rfl⟩
  · have HT := hid (thread_yes t (by omega) (by omega) w)
    have d1 : (x == 0) = true := beq_iff_eq.2 (by omega)
    clear hx ht
    go_enter Try.func42, Try.ntmps42
    go_wp2_with fail
    refine HT.out.mono ?_
    rintro e w' ⟨rfl, rfl⟩
    go_wp2
    go_ret2
    exact ⟨rfl, rfl⟩
set_option maxHeartbeats 1000000 in
theorem rfwnext (hw : RWaitAt w wb h t set s rs) : Calls Try.prog 85 #[.pointer (some ⟨wb, 0, none⟩)] w fun e w' => e = .returned (.int .u8 (ewpc s.st)) ∧ w = w' := by
  have c4 := hw.cells.2.2.2.2.2.2
  clear hw
  go_enter Try.func85, Try.ntmps85
  go_wp2
  go_ret
  exact ⟨rfl, rfl⟩
set_option maxHeartbeats 1000000 in
theorem rfwait_idle (hw : RWaitAt w wb h t set s rs) (hst : s.st = 3) : Calls Try.prog 87 #[.pointer (some ⟨wb, 0, none⟩)] w fun e w' => e = .returned (.tuple #[.int .u8 0, .bool false]) ∧ w = w' := by
  have hnx := rfwnext hw
  rw [hst] at hnx
  have NX := hid (show Calls Try.prog 85 #[.pointer (some ⟨wb, 0, none⟩)] w fun e w' => e = .returned (.int .u8 0) ∧ w = w' from hnx)
  clear hw hst hnx
  go_enter Try.func87, Try.ntmps87
  go_wp2_with fail
  refine NX.out.mono ?_
  rintro e w' ⟨rfl, rfl⟩
  go_wp2
  go_ret2
  exact ⟨rfl, rfl⟩

/-! Open. -/
set_option maxRecDepth 100000 in
set_option maxHeartbeats 2000000 in
theorem rfopen_ok (he : REngAt w h sb rb base sl) (nums : List Int) (hl : nums.length = sl.length) (hq : ∀ (k : Nat) (x : Int) (b d : Bool), sl[k]? = some (x, b, d) → nums[k]? = some x ∧ (d = true ↔ x % 2 = 1)) (hn : sl.length ≤ 1000) :
    Calls Try.prog 45 #[.pointer (some ⟨h, 0, none⟩)] w (EOpenTo w nums) := by
  obtain ⟨c0, c1, c2⟩ := he.cells
  have H := hid he
  have HQ := hid hq
  have HL := hid hl
  clear he c0 c1 hq hl
  go_enter Try.func45, Try.ntmps45
  go_wp2
  go_loopw [3, 4] (fun v' i wr => ∃ (k : Nat) (v : Value), k ≤ sl.length ∧ i = .int .i64 k ∧ v' = v ∧ wr.ownsRow 0 3 1 v (fopens nums k).length ((fopens nums k).map (Value.int .i64)) ∧ Keep Nil w wr ∧ ∀ k, v.ownBlock = some k → w.heap.size ≤ k) (fun _ i _ => sl.length - (intOf i).toNat)
  case atStart => exact ⟨0, _, Nat.zero_le _, rfl, rfl, World.ownsRow_nil _ _ _ _, Keep.refl _ _, by simp [Value.ownBlock]⟩
  case round =>
    obtain ⟨k, v, hk, rfl, hvv, ho, hkk, hv⟩ := hrel
    obtain rfl : v = _ := hvv.symm
    have HO := hid ho
    have HK := hid hkk
    have HV := hid hv
    have cN := HK.out.cell c2 (fun h => h)
    clear ho hkk hv
    by_cases hlt : k < sl.length
    · obtain ⟨⟨x, bg, d⟩, hx⟩ : ∃ p, sl[k]? = some p := ⟨_, List.getElem?_eq_getElem hlt⟩
      obtain ⟨hx1, hd⟩ := HQ.out k x bg d hx
      obtain ⟨s1, s2, s3⟩ := (H.out.quiet HK.out).slot hx
      have HX := hid hx1
      have z0 : (0 : Int) ≤ (k : Int) := by omega
      have z1 : (k : Int) < (sl.length : Int) := by omega
      clear hx hx1 s1 s2
      cases d with
      | true =>
        have HODD := hid (hd.1 rfl)
        clear hd
        go_wp2_with (at_builtin; refine wpList_app _ rfl (.tmp 26) (.tmp 28) 39 rfl 3 _ 1 8 Try.underlying39 infoInt rfl (by decide) v (fopens nums k).length ((fopens nums k).map (Value.int .i64)) rfl ?own _ 1 [.int .i64 k] rfl ?rd ?one ?byt ?len ?_)
        case own => exact HO.out.alloc _
        case rd => exact rd_new _ _ _ _ _ _
        case one => simp [Value.oneCell']
        case byt => have := fopens_len nums k; omega
        case len => have := fopens_len nums k; unfold maxLen; omega
        intro a' c' w3 ho hg hs
        have HO3 := hid ho
        have HK3 := hid (Keep.grown (HK.out.alloc _) hg (fun j hj => .inr (HV.out j hj)))
        have HV3 := hid (show ∀ j, (Value.slice a' ((fopens nums k).length + 1) c').ownBlock = some j → w.heap.size ≤ j from fun j hj => by
          rcases hs j hj with h | h
          · exact HV.out j h
          · have := HK.out.size; simp at h; omega)
        clear ho hg hs
        go_wp2
        go_roundw
        case rel =>
          refine ⟨k + 1, _, by omega, by go_num, rfl, ?_, HK3.out, HV3.out⟩
          rw [fopens_yes HX.out HODD.out, int_row1, List.length_append]
          exact HO3.out
        case measure => simp [intOf]; omega
      | false =>
        have HODD := hid (show ¬ x % 2 = 1 from fun h => by have := hd.2 h; cases this)
        clear hd
        go_wp2
        go_roundw
        case rel => exact ⟨k + 1, _, by omega, by go_num, rfl, by rw [fopens_no HX.out HODD.out]; exact HO.out, HK.out, HV.out⟩
        case measure => simp [intOf]; omega
    · obtain rfl : k = sl.length := by omega
      go_wp2
      go_ret
      exact ⟨_, rfl, by rw [HL.out]; exact HO.out, HK.out, HV.out⟩
end
end Go.Proofs.Ytihgfklajhhikaa
