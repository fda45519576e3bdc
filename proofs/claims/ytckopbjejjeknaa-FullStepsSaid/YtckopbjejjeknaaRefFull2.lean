/- leapfrogref16: the steps of its operations, Exit, Wait and Open: contracts. -/
import Derived.Test.YtckopbjejjeknaaRefFull
import Derived.BigQuiet
namespace Go.Proofs.Ytckopbjejjeknaa
open Go.RowKit Go.Lf
section
variable {w : World} {h sb rb : Nat} {G : Nat → Prop} {base : Int} {sl : List (Int × Bool × Bool)} {ws : List Int} {log : List Acc} {eb wb : Nat} {t v x : Int} {i : Nat} {s : WS}

set_option maxHeartbeats 1000000 in
theorem rfent_next {over : Bool} (he : REntAt w eb h t i over) : Calls Try.prog 76 #[.pointer (some ⟨eb, 0, none⟩)] w fun e w' => e = .returned (.int .u8 (if over then 0 else 13)) ∧ w = w' := by
  have c3 := he.cells.2.2.2
  clear he
  cases over
  all_goals
    go_enter Try.func76, Try.ntmps76
    go_wp2
    go_ret
    exact ⟨rfl, rfl⟩
/-- The reference's Enter has made its step. -/
def RFEntTo (w : World) (h sb rb : Nat) (G : Nat → Prop) (base : Int) (sl : List (Int × Bool × Bool)) (ws : List Int) (log : List Acc) (eb : Nat) (t : Int) (i : Nat) (w' : World) : Prop :=
  ∃ G', RSys w' h sb rb G' base sl ws log ∧ REntAt w' eb h t i true ∧ Keep (fun k => G k ∨ k = sb ∨ k = eb) w w' ∧ Foot w G G' ∧ ¬ G' eb
set_option maxRecDepth 100000 in
set_option maxHeartbeats 4000000 in
theorem rfent_step (hs : RSys w h sb rb G base sl ws log) (he : REntAt w eb h t i false) (hF : ¬ G eb) (x y : Int) {b d : Bool} (t0 : 0 ≤ t) (t1 : t < 64) (hx : sl[i]? = some (x, b, d)) (x0 : 0 ≤ x) (x1 : x < 1000000000000) (b0 : 0 ≤ base) (b1 : base < 1000000) (hn : sl.length < 1000000) (hy : ws[(base + i).toNat]? = some y) (hlog : log.length < 1000000000000) :
    Calls Try.prog 77 #[.pointer (some ⟨eb, 0, none⟩)] w fun e w' => e = .returned (.tuple #[.int .u8 13, .bool true]) ∧ RFEntTo w h sb rb G base (sl.set i (x + 1, b, true)) (ws.set (base + i).toNat (x + 1)) (log ++ [⟨t, base + i, 2, y, x + 1, false⟩]) eb t i w' := by
  obtain ⟨c0, c1, c2, c3⟩ := he.cells
  have e1 : eb ≠ h := type_ne he hs.eng.head (by decide)
  have e2 : eb ≠ sb := type_ne he hs.eng.slots (by decide)
  have l0 := lt_of_at hx
  have lb := lt_of_block he
  have hnx := rfent_next he
  simp only [Bool.false_eq_true, if_false] at hnx
  have NX := hid hnx
  have HA := hid (rfstore_ok (hs.quiet (Keep.refl Nil w).drew) t i x y t0 t1 hx x0 x1 b0 b1 hn hy hlog)
  have H := hid hs
  have E := hid he
  have HB := hid hF
  have HX := hid hx
  clear hs he hx hy hF hnx c3
  go_enter Try.func77, Try.ntmps77
  go_wp2_with fail
  refine NX.out.mono ?_
  rintro e w' ⟨rfl, rfl⟩
  go_wp2
  go_still_tail 12, (by kernel_rfl)
  change wpList _ _ _ _ _ w.drew
  go_wp2_with fail
  refine HA.out.mono ?_
  rintro e w1 ⟨rfl, F1, hs1, hk1, hf1⟩
  have hnF : ¬ F1 eb := fun h => (hf1 eb h).elim HB.out (fun h => by simp at h; omega)
  have he1 : REntAt w1 eb h t i false := hk1.at (show w.drew.heap[eb]? = _ from E.out) (fun h => by rcases h with h | h; exact HB.out h; exact e2 h)
  obtain ⟨a0, a1, a2, a3⟩ := he1.cells
  obtain ⟨k0, k1, k2⟩ := hs1.eng.cells
  have zf : w1.frozen? ⟨sb, i * 3 + 2, none⟩ = false := free_of hs1.eng.slots _
  have kb := (hs1.eng.slot (put_self HX.out _)).2.2
  rw [List.length_set] at k2
  have zE : w1.frozen? ⟨eb, 3, none⟩ = false := free_of he1 3
  have z0 : (0 : Int) ≤ (i : Int) := by omega
  have z1 : (i : Int) < (sl.length : Int) := by omega
  have S1 := hid hs1
  have E1 := hid he1
  have K1 := hid hk1
  have F1' := hid hf1
  have NF := hid hnF
  clear HA c0 c1 c2 hs1 he1 hk1 hf1 hnF k0 k1 a1
  have s1 := reng_set (w := w1.drew) (S1.out.eng.quiet (Keep.refl Nil w1).drew) (put_self HX.out _) (j := 2) (by decide) (.bool true) (p' := (x + 1, b, true)) rfl
  rw [List.set_set] at s1
  have kW : Keep (fun k => k = sb ∨ k = eb) w1 ((w1.drew.setCell ⟨sb, i * 3 + 2, none⟩ (.bool true)).setCell ⟨eb, 3, none⟩ (.bool true)) := Keep.setCell (Keep.setCell ((Keep.refl (fun k => k = sb ∨ k = eb) w1).drew) (.inl (.inl rfl)) _) (.inl (.inr rfl)) _
  have hres : RFEntTo w h sb rb G base (sl.set i (x + 1, b, true)) (ws.set (base + i).toNat (x + 1)) (log ++ [⟨t, base + i, 2, y, x + 1, false⟩]) eb t i ((w1.drew.setCell ⟨sb, i * 3 + 2, none⟩ (.bool true)).setCell ⟨eb, 3, none⟩ (.bool true)) := by
    refine ⟨F1, ⟨S1.out.mem.keep kW (fun k hF e => ?_), s1.keep (Keep.setCell (Keep.refl (fun k => k = eb) _) (.inl rfl) _) (fun e => e1 e.symm) (fun e => e2 e.symm), S1.out.f1, S1.out.f2⟩, ?_, ?_, fun k hk => (F1'.out k hk).elim .inl (fun h => .inr (by simpa using h)), NF.out⟩
    · rcases e with e | e
      · exact S1.out.f2 (by rw [← e]; exact hF)
      · exact NF.out (by rw [← e]; exact hF)
    · have hq : (w1.drew.setCell ⟨sb, i * 3 + 2, none⟩ (.bool true)).heap[eb]? = _ := set_other (show w1.drew.heap[eb]? = _ from E1.out) e2 _
      exact set_same hq _
    · exact ((Keep.refl (fun k => G k ∨ k = sb ∨ k = eb) w).drew.trans (K1.out.mono (T := fun k => G k ∨ k = sb ∨ k = eb) (fun _ _ h => by rcases h with h | h; exact .inl h; exact .inr (.inl h))) (fun _ _ h => h)).trans (kW.mono (T := fun k => G k ∨ k = sb ∨ k = eb) (fun _ _ h => .inr h)) (fun _ _ h => h)
  have HR := hid hres
  clear s1 kW hres
  go_wp2
  go_region_law (fail)
  all_goals
    go_wp2
    go_ret2
    exact ⟨rfl, HR.out⟩
set_option maxHeartbeats 1000000 in
theorem rfent_idle (he : REntAt w eb h t i true) : Calls Try.prog 77 #[.pointer (some ⟨eb, 0, none⟩)] w fun e w' => e = .returned (.tuple #[.int .u8 0, .bool false]) ∧ w = w' := by
  have hnx := rfent_next he
  simp only [if_true] at hnx
  have NX := hid hnx
  clear he hnx
  go_enter Try.func77, Try.ntmps77
  go_wp2_with fail
  refine NX.out.mono ?_
  rintro e w' ⟨rfl, rfl⟩
  go_wp2
  go_ret2
  exact ⟨rfl, rfl⟩

/-! Exit. -/
def exE (t s : Int) (n : Nat) (d : Bool) : Int := if t < 0 ∨ 64 ≤ t then 2 else if s < 0 ∨ (n : Int) ≤ s then 3 else if d then 0 else 8
set_option maxHeartbeats 2000000 in
theorem rfexit_thread (h : Nat) (t s0 : Int) (ht : t < 0 ∨ 64 ≤ t) :
    Calls Try.prog 48 #[.pointer (some ⟨h, 0, none⟩), .int .i64 t, .int .i64 s0] w fun e w' => e = .returned (.tuple #[.int .u8 0, .int .i64 2]) ∧ w = w' := by
  have HT := hid (thread_no t ht w)
  clear ht
  go_enter Try.func48, Try.ntmps48
  go_wp2_with fail
  refine HT.out.mono ?_
  rintro e w' ⟨rfl, rfl⟩
  go_wp2
  go_ret2
  exact ⟨rfl, rfl⟩
set_option maxHeartbeats 2000000 in
theorem rfexit_slot (he : REngAt w h sb rb base sl) (t0 : 0 ≤ t) (t1 : t < 64) (s0 : Int) (hs : s0 < 0 ∨ (sl.length : Int) ≤ s0) :
    Calls Try.prog 48 #[.pointer (some ⟨h, 0, none⟩), .int .i64 t, .int .i64 s0] w fun e w' => e = .returned (.tuple #[.int .u8 0, .int .i64 3]) ∧ w = w' := by
  obtain ⟨c0, c1, c2⟩ := he.cells
  have HT := hid (thread_yes t t0 t1 w)
  clear he c0 c1
  by_cases h1 : s0 < 0
  · have d1 : decide (s0 < 0) = true := decide_eq_true h1
    clear hs h1
    go_enter Try.func48, Try.ntmps48
    go_wp2_with fail
    refine HT.out.mono ?_
    rintro e w' ⟨rfl, rfl⟩
    go_wp2
    go_ret2
    exact ⟨rfl, rfl⟩
  · have d1 : decide (s0 < 0) = false := decide_eq_false h1
    have d2 : decide ((sl.length : Int) ≤ s0) = true := decide_eq_true (by omega)
    clear hs h1
    go_enter Try.func48, Try.ntmps48
    go_wp2_with fail
    refine HT.out.mono ?_
    rintro e w' ⟨rfl, rfl⟩
    go_wp2
    go_ret2
    exact ⟨rfl, rfl⟩
set_option maxHeartbeats 2000000 in
theorem rfexit_state (he : REngAt w h sb rb base sl) (t0 : 0 ≤ t) (t1 : t < 64) {b : Bool} (hx : sl[i]? = some (x, b, false)) :
    Calls Try.prog 48 #[.pointer (some ⟨h, 0, none⟩), .int .i64 t, .int .i64 i] w fun e w' => e = .returned (.tuple #[.int .u8 0, .int .i64 8]) ∧ w = w' := by
  obtain ⟨c0, c1, c2⟩ := he.cells
  obtain ⟨s1, s2, s3⟩ := he.slot hx
  have l0 := lt_of_at hx
  have HT := hid (thread_yes t t0 t1 w)
  have d1 : decide ((i : Int) < 0) = false := decide_eq_false (by omega)
  have d2 : decide ((sl.length : Int) ≤ (i : Int)) = false := decide_eq_false (by omega)
  have z0 : (0 : Int) ≤ (i : Int) := by omega
  have z1 : (i : Int) < (sl.length : Int) := by omega
  clear he hx c0 c1
  go_enter Try.func48, Try.ntmps48
  go_wp2_with fail
  refine HT.out.mono ?_
  rintro e w' ⟨rfl, rfl⟩
  go_wp2
  go_ret2
  exact ⟨rfl, rfl⟩
set_option maxRecDepth 100000 in
set_option maxHeartbeats 4000000 in
theorem rfexit_ok (hs : RSys w h sb rb G base sl ws log) (x y : Int) {b : Bool} (t0 : 0 ≤ t) (t1 : t < 64) (hx : sl[i]? = some (x, b, true)) (x0 : 0 ≤ x) (x1 : x < 1000000000000) (b0 : 0 ≤ base) (b1 : base < 1000000) (hn : sl.length < 1000000) (hy : ws[(base + i).toNat]? = some y) (hlog : log.length < 1000000000000) :
    Calls Try.prog 48 #[.pointer (some ⟨h, 0, none⟩), .int .i64 t, .int .i64 i] w fun e w' => e = .returned (.tuple #[.int .u8 13, .int .i64 0]) ∧ RSysTo w h sb rb G base (sl.set i (x + 1, false, false)) (ws.set (base + i).toNat (x + 1)) (log ++ [⟨t, base + i, 2, y, x + 1, false⟩]) w' := by
  obtain ⟨c0, c1, c2⟩ := hs.eng.cells
  obtain ⟨s1, s2, s3⟩ := hs.eng.slot hx
  have l0 := lt_of_at hx
  have HT := hid (thread_yes t t0 t1 w)
  have d1 : decide ((i : Int) < 0) = false := decide_eq_false (by omega)
  have d2 : decide ((sl.length : Int) ≤ (i : Int)) = false := decide_eq_false (by omega)
  have z0 : (0 : Int) ≤ (i : Int) := by omega
  have z1 : (i : Int) < (sl.length : Int) := by omega
  have HA := hid (rfstore_ok hs t i x y t0 t1 hx x0 x1 b0 b1 hn hy hlog)
  have H := hid hs
  have HX := hid hx
  clear hs hx hy c0 c1
  go_enter Try.func48, Try.ntmps48
  go_wp2_with fail
  refine HT.out.mono ?_
  rintro e w' ⟨rfl, rfl⟩
  go_wp2_with fail
  refine HA.out.mono ?_
  rintro e w1 ⟨rfl, F1, hs1, hk1, hf1⟩
  obtain ⟨k0, k1, k2⟩ := hs1.eng.cells
  rw [List.length_set] at k2
  obtain ⟨-, kb1, kb2⟩ := hs1.eng.slot (put_self HX.out _)
  have zf1 : w1.frozen? ⟨sb, i * 3 + 1, none⟩ = false := free_of hs1.eng.slots _
  have zf2 : w1.frozen? ⟨sb, i * 3 + 2, none⟩ = false := free_of hs1.eng.slots _
  have hsb := lt_of_block hs1.eng.slots
  have p1 := reng_set (w := w1.drew) (hs1.eng.quiet (Keep.refl Nil w1).drew) (put_self HX.out _) (j := 1) (by decide) (.bool false) (p' := (x + 1, false, true)) rfl
  rw [List.set_set] at p1
  have p2 := reng_set p1 (put_self HX.out _) (j := 2) (by decide) (.bool false) (p' := (x + 1, false, false)) rfl
  rw [List.set_set] at p2
  have kW : Keep (fun k => k = sb) w1 ((w1.drew.setCell ⟨sb, i * 3 + 1, none⟩ (.bool false)).setCell ⟨sb, i * 3 + 2, none⟩ (.bool false)) := Keep.setCell (Keep.setCell ((Keep.refl (fun k => k = sb) w1).drew) (.inl rfl) _) (.inl rfl) _
  have HR := hid (show RSysTo w h sb rb G base (sl.set i (x + 1, false, false)) (ws.set (base + i).toNat (x + 1)) (log ++ [⟨t, base + i, 2, y, x + 1, false⟩]) ((w1.drew.setCell ⟨sb, i * 3 + 1, none⟩ (.bool false)).setCell ⟨sb, i * 3 + 2, none⟩ (.bool false)) from
    ⟨F1, ⟨hs1.mem.keep kW (fun k hF e => hs1.f2 (by rw [← e]; exact hF)), p2, hs1.f1, hs1.f2⟩, hk1.trans (kW.mono (T := fun k => G k ∨ k = sb) (fun _ _ h => .inr h)) (fun _ _ h => h), hf1⟩)
  clear HA c2 s1 s2 s3 hs1 hk1 hf1 k0 k1 p1 p2 kW
  go_wp2
  go_region_law (fail)
  all_goals
    go_wp2
    go_ret2
    exact ⟨rfl, HR.out⟩

/-! Wait. -/
def RFWaitTo (w : World) (h : Nat) (t : Int) (e : Ending) (w' : World) : Prop :=
  e = .returned (.tuple #[.pointer (some ⟨w.heap.size, 0, none⟩), .int .i64 0]) ∧ RWaitAt w' w.heap.size h t ⟨0, 0, 0⟩ ∧ Keep Nil w w' ∧ w'.heap.size = w.heap.size + 1
set_option maxHeartbeats 1000000 in
theorem rfwait_ok (h : Nat) (t0 : 0 ≤ t) (t1 : t < 64) (hx : x ≠ 0) : Calls Try.prog 49 #[.pointer (some ⟨h, 0, none⟩), .int .i64 t, .int .u64 x] w (RFWaitTo w h t) := by
  have HT := hid (thread_yes t t0 t1 w)
  have d1 : (x == 0) = false := beq_eq_false_iff_ne.2 hx
  clear hx
  go_enter Try.func49, Try.ntmps49
  go_wp2_with fail
  refine HT.out.mono ?_
  rintro e w' ⟨rfl, rfl⟩
  go_wp2
  go_ret2
  exact ⟨rfl, heap_alloc_new w _, (Keep.refl Nil w).alloc _, by simp⟩
set_option maxHeartbeats 1000000 in
theorem rfwait_err (h : Nat) (hx : (t < 0 ∨ 64 ≤ t) ∨ x = 0) : Calls Try.prog 49 #[.pointer (some ⟨h, 0, none⟩), .int .i64 t, .int .u64 x] w fun e w' => e = .returned (.tuple #[.pointer none, .int .i64 2]) ∧ w = w' := by
  by_cases ht : t < 0 ∨ 64 ≤ t
  · have HT := hid (thread_no t ht w)
    clear hx ht
    go_enter Try.func49, Try.ntmps49
    go_wp2_with fail
    refine HT.out.mono ?_
    rintro e w' ⟨rfl, rfl⟩
    go_wp2
    go_ret2
    exact ⟨rfl, rfl⟩
  · have HT := hid (thread_yes t (by omega) (by omega) w)
    have d1 : (x == 0) = true := beq_iff_eq.2 (by omega)
    clear hx ht
    go_enter Try.func49, Try.ntmps49
    go_wp2_with fail
    refine HT.out.mono ?_
    rintro e w' ⟨rfl, rfl⟩
    go_wp2
    go_ret2
    exact ⟨rfl, rfl⟩
set_option maxHeartbeats 1000000 in
theorem rfwnext (hw : RWaitAt w wb h t s) : Calls Try.prog 78 #[.pointer (some ⟨wb, 0, none⟩)] w fun e w' => e = .returned (.int .u8 (if 2 ≤ s.st then 0 else 17)) ∧ w = w' := by
  have c4 := hw.cells.2.2.2.2
  clear hw
  by_cases hs : 2 ≤ s.st
  · rw [decide_eq_true hs] at c4
    rw [if_pos hs]
    clear hs
    go_enter Try.func78, Try.ntmps78
    go_wp2
    go_ret
    exact ⟨rfl, rfl⟩
  · rw [decide_eq_false hs] at c4
    rw [if_neg hs]
    clear hs
    go_enter Try.func78, Try.ntmps78
    go_wp2
    go_ret
    exact ⟨rfl, rfl⟩
set_option maxHeartbeats 1000000 in
theorem rfwait_idle (hw : RWaitAt w wb h t s) (hst : 2 ≤ s.st) : Calls Try.prog 79 #[.pointer (some ⟨wb, 0, none⟩)] w fun e w' => e = .returned (.tuple #[.int .u8 0, .bool false]) ∧ w = w' := by
  have hnx := rfwnext hw
  rw [if_pos hst] at hnx
  have NX := hid hnx
  clear hw hst hnx
  go_enter Try.func79, Try.ntmps79
  go_wp2_with fail
  refine NX.out.mono ?_
  rintro e w' ⟨rfl, rfl⟩
  go_wp2
  go_ret2
  exact ⟨rfl, rfl⟩
end
end Go.Proofs.Ytckopbjejjeknaa
