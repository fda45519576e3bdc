/- session: contracts of Step. -/
import Derived.Test.YtjghenomeindcaaGreatSess
import Derived.StillTailTactics
set_option linter.unusedVariables false
set_option linter.unusedSimpArgs false
namespace Go.Proofs.YtjghenomeindcaaGreat
open Go.RowKit Go.Lf
/-- An opening has turned, and the store. -/
def SStepTo (w : World) (A : Nat → Prop) (c : Cfg) (b mb : Nat) (ws' : List Int) (log' : List Acc) (o : Nat) (t : Int) (s' : OS) (v0 : Value) (w' : World) : Prop :=
  ∃ A' a' cp', (StoreL c b mb).lie w' A' (ws', log') ∧ OpenAt w' o b t s' a' cp' ∧ Keep (fun k => A k ∨ k = o) w w' ∧ Foot w A A' ∧ ∀ k, (Value.slice a' s'.left.length cp').ownBlock = some k → v0.ownBlock = some k
theorem nums_tail {k : Nat} {r : List Nat} {j : Nat} {u : Value} (h : (nums r)[j]? = some u) : (nums (k :: r))[j + 1]? = some u := by
  simpa [nums, i64s, ints] using h
section
variable {w : World} {A : Nat → Prop} {c : Cfg} {b mb L o : Nat} {F G : Nat → Prop} {ws : List Int} {log : List Acc} {t : Int} {a : Option Addr} {cp : Nat}
theorem sstep_end {X w10 w' : World} {A' : Nat → Prop} {L' : Nat} {F' G' : Nat → Prop} {ws' : List Int} {log' : List Acc} {a' : Option Addr} {cp' : Nat} {s' : OS} {v0 : Value} (hA : ¬ A o) (hk1 : Keep (fun k => k = o) w X) (hox : o < X.heap.size) (s10 : SP w10 A' c b mb L' F' G' ws' log') (k10 : Keep A X w10) (f10 : Foot X A A') (k11 : Keep (fun k => k = o) w10 w')
    (ho : w'.heap[o]? = some (.cells #[.pointer (some ⟨b, 0, none⟩), .int .i64 t, .slice a' s'.left.length cp', .int .i64 s'.slot, .int .i64 s'.err] 132 (0, 0))) (hrd : Rd w 1 (.slice a' s'.left.length cp') s'.left.length (nums s'.left)) (hcap : s'.left.length ≤ cp')
    (hb : ∀ k, (Value.slice a' s'.left.length cp').ownBlock = some k → v0.ownBlock = some k ∧ ¬ A k ∧ k ≠ o ∧ k < w.heap.size) : SStepTo w A c b mb ws' log' o t s' v0 w' := by
  have hno : ∀ k, A' k → ¬ k = o := fun k h e => by
    subst e
    exact (f10 k h).elim hA (fun h => by omega)
  have kk : Keep (fun k => A k ∨ k = o) w w' := ((hk1.mono (T := fun k => A k ∨ k = o) (fun _ _ h => .inr h)).trans (k10.mono (T := fun k => A k ∨ k = o) (fun _ _ h => .inl h)) (fun _ _ h => h)).trans (k11.mono (T := fun k => A k ∨ k = o) (fun _ _ h => .inr h)) (fun _ _ h => h)
  exact ⟨A', a', cp', ⟨L', F', G', s10.keep k11 hno⟩, ⟨ho, rd_keep hrd kk (fun k e h => h.elim (hb k e).2.1 (hb k e).2.2.1), hcap, fun k e => ⟨by have := (hb k e).2.2.2; have := kk.size; omega, (hb k e).2.2.1⟩⟩, kk, fun k h => (f10 k h).elim .inl (fun h => .inr (by have := hk1.size; omega)), fun k e => (hb k e).1⟩
theorem nil_rd (w : World) : Rd w 1 (.slice none ([] : List Nat).length 0) ([] : List Nat).length (nums []) := ⟨_, _, rfl, by simp [nums, i64s, ints], .inl ⟨rfl, rfl, rfl⟩⟩
set_option maxRecDepth 100000 in
set_option maxHeartbeats 8000000 in
theorem sstep_yes0 (h : SP w A c b mb L F G ws log) {k : Nat} {slot err : Int} (ho : OpenAt w o b t ⟨[k], slot, err⟩ a cp) (hA : ¬ A o) (hB : ∀ j, (Value.slice a 1 cp).ownBlock = some j → ¬ A j) (t0 : 0 ≤ t) (t1 : t < 64) (hk : k ≤ 64) (hx : ws[k]? = some 0) (hlog : log.length < 1000000000000) :
    Calls Tryz.prog 9 #[.pointer (some ⟨o, 0, none⟩)] w fun e w' => e = .returned (.tuple #[.int .u8 35, .bool true]) ∧ SStepTo w A c b mb (ws.set k (t + 1)) (log ++ [⟨t, k, 4, 0, t + 1, true⟩]) o t ⟨[], k, err⟩ (.slice a 1 cp) w' := by
  have hrow : Rd w 1 (.slice a 1 cp) 1 (nums [k]) := ho.rd
  obtain ⟨ab, off, cc, hv, hcell⟩ := Rd.cell hrow (by omega)
  simp only [Value.slice.injEq] at hv
  obtain ⟨rfl, -, rfl⟩ := hv
  have hcap : 1 ≤ cp := ho.cap
  have cx : w.cell? ⟨ab, off, none⟩ = some (.int .i64 (k : Int)) := by have := hcell 0 (.int .i64 (k : Int)) rfl; rwa [Nat.add_zero] at this
  have c0 : w.cell? ⟨o, 0, none⟩ = some (.pointer (some ⟨b, 0, none⟩)) := by rw [cell_of ho.head]; rfl
  have c1 : w.cell? ⟨o, 1, none⟩ = some (.int .i64 t) := by rw [cell_of ho.head]; rfl
  have c2 : w.cell? ⟨o, 2, none⟩ = some (.slice (some ⟨ab, off, none⟩) 1 cp) := by rw [cell_of ho.head]; rfl
  have f2 : w.frozen? ⟨o, 2, none⟩ = false := free_of ho.head 2
  have hoz : o < w.heap.size := lt_of_block ho.head
  have hab : ab ≠ o := (ho.blk ab rfl).2
  have l1 : ((1 : Int) == 0) = false := beq_eq_false_iff_ne.2 (by omega)
  have l2 : (0 : Int) < (1 : Int) := by omega
  have l3 : (1 : Int) ≤ (1 : Int) := by omega
  have l4 : (1 : Int) ≤ (cp : Int) := by omega
  have l5 : 1 ≤ 1 := by omega
  have HH := hid h
  have HO := hid ho
  have HA := hid hA
  have HB := hid hB
  have HX := hid hx
  have HR := hid (show Rd w 1 (.slice (some ⟨ab, off, none⟩) 0 0) 0 (nums ([] : List Nat)) from ⟨_, _, rfl, by simp [nums, i64s, ints], .inr (.inr ⟨⟨_, rfl⟩, rfl⟩)⟩)
  obtain ⟨W, hW⟩ : ∃ W, W = w.setCell ⟨o, 2, none⟩ (.slice (some ⟨ab, off, none⟩) 0 0) := ⟨_, rfl⟩
  have kW : Keep (fun k => k = o) w W := by rw [hW]; exact Keep.setCell (Keep.refl (fun k => k = o) w) (.inl rfl) _
  have oW : W.heap[o]? = some (.cells #[.pointer (some ⟨b, 0, none⟩), .int .i64 t, .slice (some ⟨ab, off, none⟩) 0 0, .int .i64 slot, .int .i64 err] 132 (0, 0)) := by rw [hW]; exact set_same ho.head _
  have hW' := hid hW
  have HS := hid (h.keep kW (fun k hk e => hA (e ▸ hk)))
  have HOW := hid oW
  have HKW := hid kW
  clear h ho hA hB hcell hrow hx hW kW oW
  go_enter Tryz.func9, Tryz.ntmps9
  go_wp2
  go_still_tail 18, (by kernel_rfl)
  change wpList _ _ _ _ _ w.drew
  go_wp2_with fail
  rw [show (w.setCell ⟨o, 2, none⟩ (.slice (some ⟨ab, off, none⟩) 0 0)).drew = W.drew by rw [hW'.out]]
  have d0 : W.drew.cell? ⟨o, 0, none⟩ = some (.pointer (some ⟨b, 0, none⟩)) := cell_of (show W.drew.heap[o]? = _ from HOW.out) 0
  have d1 : W.drew.cell? ⟨o, 1, none⟩ = some (.int .i64 t) := cell_of (show W.drew.heap[o]? = _ from HOW.out) 1
  have wt : IntKind.u64.wrap t = t := by rw [IntKind.wrap_u64]; omega
  have wt1 : IntKind.u64.wrap (t + 1) = t + 1 := by rw [IntKind.wrap_u64]; omega
  clear c0 c1 c2 f2 cx l1 l2 l3 l4 l5  hcap hoz
  obtain ⟨X, hX⟩ : ∃ X, X = W.drew := ⟨_, rfl⟩
  rw [← hX] at d0 d1 ⊢
  have HSX := hid (show SP X A c b mb L F G ws log from by rw [hX]; exact HS.out.quiet (Keep.refl Nil W).drew)
  have HOX := hid (show X.heap[o]? = some (.cells #[.pointer (some ⟨b, 0, none⟩), .int .i64 t, .slice (some ⟨ab, off, none⟩) 0 0, .int .i64 slot, .int .i64 err] 132 (0, 0)) from by rw [hX]; exact HOW.out)
  have HKX := hid (show Keep (fun k => k = o) w X from by rw [hX]; exact HKW.out.drew)
  clear hX HS HOW HKW hW' W
  have KD := hid ((Keep.refl Nil X).drew)
  go_region_held3 (fun w' => w'.cell? ⟨o, 0, none⟩ = some (.pointer (some ⟨b, 0, none⟩)) ∧ w'.cell? ⟨o, 1, none⟩ = some (.int .i64 t)) (go_keep)
    (first
      | (go_at_call 19; (with_reducible refine (bmem_ok (HSX.out.quiet KD.out)).mono ?_); rintro e w9 ⟨rfl, rfl⟩)
      | (go_at_call 19; (with_reducible refine (bmem_ok (HSX.out.quiet K8.out)).mono ?_); rintro e w9 ⟨rfl, rfl⟩)
      | (go_at_call 60; (with_reducible refine (owner_ok (HSX.out.quiet KD.out) (k : Int) (by omega) (by omega)).mono ?_); rintro e w8 ⟨rfl, hk8⟩; have K8 := hid (KD.out.trans hk8 (fun _ _ h => h)); have o8 := K8.out.at HOX.out (fun h => h); have e0 : w8.cell? ⟨o, 0, none⟩ = some (.pointer (some ⟨b, 0, none⟩)) := cell_of o8 0; have e1 : w8.cell? ⟨o, 1, none⟩ = some (.int .i64 t) := cell_of o8 1; clear hk8 o8)
      | (go_at_call 59; (with_reducible refine (cas_yes (HSX.out.quiet K8.out).mem t (k : Int) 0 (t + 1) t0 t1 (by omega) (by simpa using HX.out) hlog).mono ?_); rintro e w10 ⟨rfl, hm⟩; obtain ⟨A', ⟨L', F', G', s10⟩, k10, ft10⟩ := HSX.out.turn K8.out hm; simp only [Int.toNat_natCast] at s10; have o10 := k10.at HOX.out HA.out; have i0 : w10.cell? ⟨o, 0, none⟩ = some (.pointer (some ⟨b, 0, none⟩)) := cell_of o10 0; have i1 : w10.cell? ⟨o, 1, none⟩ = some (.int .i64 t) := cell_of o10 1; have S10 := hid s10; have KK10 := hid k10; have FT10 := hid ft10; have O10 := hid o10; clear hm s10 k10 ft10 o10))
  all_goals
    have z2 : w10.cell? ⟨o, 2, none⟩ = some (.slice (some ⟨ab, off, none⟩) 0 0) := cell_of O10.out 2
    have z3 : w10.cell? ⟨o, 3, none⟩ = some (.int .i64 slot) := cell_of O10.out 3
    have z4 : w10.cell? ⟨o, 4, none⟩ = some (.int .i64 err) := cell_of O10.out 4
    have g2 : w10.frozen? ⟨o, 2, none⟩ = false := free_of O10.out 2
    have g3 : w10.frozen? ⟨o, 3, none⟩ = false := free_of O10.out 3
    have g4 : w10.frozen? ⟨o, 4, none⟩ = false := free_of O10.out 4
    have hz10 : o < w10.heap.size := lt_of_block O10.out
    go_wp2
    go_quiet (fail)
    go_wp2
    go_ret2
    have hh := set_same (set_same O10.out (i := 2) (.slice none 0 0)) (i := 3) (.int .i64 (k : Int))
    exact ⟨rfl, sstep_end HA.out HKX.out (lt_of_block HOX.out) S10.out KK10.out FT10.out ((Keep.setCell (Keep.setCell (Keep.refl (fun k => k = o) w10) (.inl rfl) _) (.inl rfl) _).drewN nq) (show (((w10.setCell ⟨o, 2, none⟩ (.slice none 0 0)).setCell ⟨o, 3, none⟩ (.int .i64 (k : Int))).drewN nq).heap[o]? = _ from hh) (nil_rd w) (Nat.le_refl _) (fun k e => by cases e)⟩
set_option maxRecDepth 100000 in
set_option maxHeartbeats 8000000 in
theorem sstep_no0 (h : SP w A c b mb L F G ws log) {k : Nat} {slot err : Int} (ho : OpenAt w o b t ⟨[k], slot, err⟩ a cp) (hA : ¬ A o) (hB : ∀ j, (Value.slice a 1 cp).ownBlock = some j → ¬ A j) (t0 : 0 ≤ t) (t1 : t < 64) (hk : k ≤ 64) {x : Int} (hx : ws[k]? = some x) (hne : Hid (x ≠ 0)) (hlog : log.length < 1000000000000) :
    Calls Tryz.prog 9 #[.pointer (some ⟨o, 0, none⟩)] w fun e w' => e = .returned (.tuple #[.int .u8 35, .bool true]) ∧ SStepTo w A c b mb ws (log ++ [⟨t, k, 4, x, x, false⟩]) o t ⟨[], slot, 10⟩ (.slice a 1 cp) w' := by
  have hrow : Rd w 1 (.slice a 1 cp) 1 (nums [k]) := ho.rd
  obtain ⟨ab, off, cc, hv, hcell⟩ := Rd.cell hrow (by omega)
  simp only [Value.slice.injEq] at hv
  obtain ⟨rfl, -, rfl⟩ := hv
  have hcap : 1 ≤ cp := ho.cap
  have cx : w.cell? ⟨ab, off, none⟩ = some (.int .i64 (k : Int)) := by have := hcell 0 (.int .i64 (k : Int)) rfl; rwa [Nat.add_zero] at this
  have c0 : w.cell? ⟨o, 0, none⟩ = some (.pointer (some ⟨b, 0, none⟩)) := by rw [cell_of ho.head]; rfl
  have c1 : w.cell? ⟨o, 1, none⟩ = some (.int .i64 t) := by rw [cell_of ho.head]; rfl
  have c2 : w.cell? ⟨o, 2, none⟩ = some (.slice (some ⟨ab, off, none⟩) 1 cp) := by rw [cell_of ho.head]; rfl
  have f2 : w.frozen? ⟨o, 2, none⟩ = false := free_of ho.head 2
  have hoz : o < w.heap.size := lt_of_block ho.head
  have hab : ab ≠ o := (ho.blk ab rfl).2
  have l1 : ((1 : Int) == 0) = false := beq_eq_false_iff_ne.2 (by omega)
  have l2 : (0 : Int) < (1 : Int) := by omega
  have l3 : (1 : Int) ≤ (1 : Int) := by omega
  have l4 : (1 : Int) ≤ (cp : Int) := by omega
  have l5 : 1 ≤ 1 := by omega
  have HH := hid h
  have HO := hid ho
  have HA := hid hA
  have HB := hid hB
  have HX := hid hx
  have HR := hid (show Rd w 1 (.slice (some ⟨ab, off, none⟩) 0 0) 0 (nums ([] : List Nat)) from ⟨_, _, rfl, by simp [nums, i64s, ints], .inr (.inr ⟨⟨_, rfl⟩, rfl⟩)⟩)
  obtain ⟨W, hW⟩ : ∃ W, W = w.setCell ⟨o, 2, none⟩ (.slice (some ⟨ab, off, none⟩) 0 0) := ⟨_, rfl⟩
  have kW : Keep (fun k => k = o) w W := by rw [hW]; exact Keep.setCell (Keep.refl (fun k => k = o) w) (.inl rfl) _
  have oW : W.heap[o]? = some (.cells #[.pointer (some ⟨b, 0, none⟩), .int .i64 t, .slice (some ⟨ab, off, none⟩) 0 0, .int .i64 slot, .int .i64 err] 132 (0, 0)) := by rw [hW]; exact set_same ho.head _
  have hW' := hid hW
  have HS := hid (h.keep kW (fun k hk e => hA (e ▸ hk)))
  have HOW := hid oW
  have HKW := hid kW
  clear h ho hA hB hcell hrow hx hW kW oW
  go_enter Tryz.func9, Tryz.ntmps9
  go_wp2
  go_still_tail 18, (by kernel_rfl)
  change wpList _ _ _ _ _ w.drew
  go_wp2_with fail
  rw [show (w.setCell ⟨o, 2, none⟩ (.slice (some ⟨ab, off, none⟩) 0 0)).drew = W.drew by rw [hW'.out]]
  have d0 : W.drew.cell? ⟨o, 0, none⟩ = some (.pointer (some ⟨b, 0, none⟩)) := cell_of (show W.drew.heap[o]? = _ from HOW.out) 0
  have d1 : W.drew.cell? ⟨o, 1, none⟩ = some (.int .i64 t) := cell_of (show W.drew.heap[o]? = _ from HOW.out) 1
  have wt : IntKind.u64.wrap t = t := by rw [IntKind.wrap_u64]; omega
  have wt1 : IntKind.u64.wrap (t + 1) = t + 1 := by rw [IntKind.wrap_u64]; omega
  clear c0 c1 c2 f2 cx l1 l2 l3 l4 l5  hcap hoz
  obtain ⟨X, hX⟩ : ∃ X, X = W.drew := ⟨_, rfl⟩
  rw [← hX] at d0 d1 ⊢
  have HSX := hid (show SP X A c b mb L F G ws log from by rw [hX]; exact HS.out.quiet (Keep.refl Nil W).drew)
  have HOX := hid (show X.heap[o]? = some (.cells #[.pointer (some ⟨b, 0, none⟩), .int .i64 t, .slice (some ⟨ab, off, none⟩) 0 0, .int .i64 slot, .int .i64 err] 132 (0, 0)) from by rw [hX]; exact HOW.out)
  have HKX := hid (show Keep (fun k => k = o) w X from by rw [hX]; exact HKW.out.drew)
  clear hX HS HOW HKW hW' W
  have KD := hid ((Keep.refl Nil X).drew)
  go_region_held3 (fun w' => w'.cell? ⟨o, 0, none⟩ = some (.pointer (some ⟨b, 0, none⟩)) ∧ w'.cell? ⟨o, 1, none⟩ = some (.int .i64 t)) (go_keep)
    (first
      | (go_at_call 19; (with_reducible refine (bmem_ok (HSX.out.quiet KD.out)).mono ?_); rintro e w9 ⟨rfl, rfl⟩)
      | (go_at_call 19; (with_reducible refine (bmem_ok (HSX.out.quiet K8.out)).mono ?_); rintro e w9 ⟨rfl, rfl⟩)
      | (go_at_call 60; (with_reducible refine (owner_ok (HSX.out.quiet KD.out) (k : Int) (by omega) (by omega)).mono ?_); rintro e w8 ⟨rfl, hk8⟩; have K8 := hid (KD.out.trans hk8 (fun _ _ h => h)); have o8 := K8.out.at HOX.out (fun h => h); have e0 : w8.cell? ⟨o, 0, none⟩ = some (.pointer (some ⟨b, 0, none⟩)) := cell_of o8 0; have e1 : w8.cell? ⟨o, 1, none⟩ = some (.int .i64 t) := cell_of o8 1; clear hk8 o8)
      | (go_at_call 59; (with_reducible refine (cas_no (HSX.out.quiet K8.out).mem t (k : Int) x 0 (t + 1) t0 t1 (by omega) (by simpa using HX.out) hne.out hlog).mono ?_); rintro e w10 ⟨rfl, hm⟩; obtain ⟨A', ⟨L', F', G', s10⟩, k10, ft10⟩ := HSX.out.turn K8.out hm; simp only [Int.toNat_natCast] at s10; have o10 := k10.at HOX.out HA.out; have i0 : w10.cell? ⟨o, 0, none⟩ = some (.pointer (some ⟨b, 0, none⟩)) := cell_of o10 0; have i1 : w10.cell? ⟨o, 1, none⟩ = some (.int .i64 t) := cell_of o10 1; have S10 := hid s10; have KK10 := hid k10; have FT10 := hid ft10; have O10 := hid o10; clear hm s10 k10 ft10 o10))
  all_goals
    have z2 : w10.cell? ⟨o, 2, none⟩ = some (.slice (some ⟨ab, off, none⟩) 0 0) := cell_of O10.out 2
    have z3 : w10.cell? ⟨o, 3, none⟩ = some (.int .i64 slot) := cell_of O10.out 3
    have z4 : w10.cell? ⟨o, 4, none⟩ = some (.int .i64 err) := cell_of O10.out 4
    have g2 : w10.frozen? ⟨o, 2, none⟩ = false := free_of O10.out 2
    have g3 : w10.frozen? ⟨o, 3, none⟩ = false := free_of O10.out 3
    have g4 : w10.frozen? ⟨o, 4, none⟩ = false := free_of O10.out 4
    have hz10 : o < w10.heap.size := lt_of_block O10.out
    go_wp2
    go_quiet (fail)
    go_wp2
    go_ret2
    have hh := set_same O10.out (i := 4) (.int .i64 10)
    exact ⟨rfl, sstep_end HA.out HKX.out (lt_of_block HOX.out) S10.out KK10.out FT10.out ((Keep.setCell (Keep.refl (fun k => k = o) w10) (.inl rfl) _).drewN nq) (show ((w10.setCell ⟨o, 4, none⟩ (.int .i64 10)).drewN nq).heap[o]? = _ from hh) HR.out (Nat.le_refl _) (fun j e => by have hj : some ab = some j := e; cases hj; exact ⟨rfl, HB.out ab rfl, hab, (HO.out.blk ab rfl).1⟩)⟩
set_option maxRecDepth 100000 in
set_option maxHeartbeats 8000000 in
theorem sstep_yes1 (h : SP w A c b mb L F G ws log) {k : Nat} {r : List Nat} (hr : 0 < r.length) {slot err : Int} (ho : OpenAt w o b t ⟨k :: r, slot, err⟩ a cp) (hA : ¬ A o) (hB : ∀ j, (Value.slice a (r.length + 1) cp).ownBlock = some j → ¬ A j) (t0 : 0 ≤ t) (t1 : t < 64) (hk : k ≤ 64) (hx : ws[k]? = some 0) (hlog : log.length < 1000000000000) :
    Calls Tryz.prog 9 #[.pointer (some ⟨o, 0, none⟩)] w fun e w' => e = .returned (.tuple #[.int .u8 35, .bool true]) ∧ SStepTo w A c b mb (ws.set k (t + 1)) (log ++ [⟨t, k, 4, 0, t + 1, true⟩]) o t ⟨[], k, err⟩ (.slice a (r.length + 1) cp) w' := by
  have hrow : Rd w 1 (.slice a (r.length + 1) cp) (r.length + 1) (nums (k :: r)) := ho.rd
  obtain ⟨ab, off, cc, hv, hcell⟩ := Rd.cell hrow (by omega)
  simp only [Value.slice.injEq] at hv
  obtain ⟨rfl, -, rfl⟩ := hv
  have hcap : (r.length + 1) ≤ cp := ho.cap
  have cx : w.cell? ⟨ab, off, none⟩ = some (.int .i64 (k : Int)) := by have := hcell 0 (.int .i64 (k : Int)) rfl; rwa [Nat.add_zero] at this
  have c0 : w.cell? ⟨o, 0, none⟩ = some (.pointer (some ⟨b, 0, none⟩)) := by rw [cell_of ho.head]; rfl
  have c1 : w.cell? ⟨o, 1, none⟩ = some (.int .i64 t) := by rw [cell_of ho.head]; rfl
  have c2 : w.cell? ⟨o, 2, none⟩ = some (.slice (some ⟨ab, off, none⟩) (r.length + 1) cp) := by rw [cell_of ho.head]; rfl
  have f2 : w.frozen? ⟨o, 2, none⟩ = false := free_of ho.head 2
  have hoz : o < w.heap.size := lt_of_block ho.head
  have hab : ab ≠ o := (ho.blk ab rfl).2
  have l1 : (((r.length : Int) + 1) == 0) = false := beq_eq_false_iff_ne.2 (by omega)
  have l2 : (0 : Int) < ((r.length : Int) + 1) := by omega
  have l3 : (1 : Int) ≤ ((r.length : Int) + 1) := by omega
  have l4 : ((r.length : Int) + 1) ≤ (cp : Int) := by omega
  have l5 : 1 ≤ (r.length + 1) := by omega
  have l6 : r.length ≠ 0 := by omega
  have l7 : 0 < r.length := hr
  have HH := hid h
  have HO := hid ho
  have HA := hid hA
  have HB := hid hB
  have HX := hid hx
  have HR := hid (show Rd w 1 (.slice (some ⟨ab, off + 1, none⟩) r.length r.length) r.length (nums r) from ⟨_, _, rfl, by simp [nums, i64s, ints], .inr (.inl ⟨_, _, rfl, fun j u hu => by have := hcell (j + 1) u (nums_tail hu); rwa [show off + (j + 1) = off + 1 + j by omega] at this⟩)⟩)
  obtain ⟨W, hW⟩ : ∃ W, W = w.setCell ⟨o, 2, none⟩ (.slice (some ⟨ab, off + 1, none⟩) r.length r.length) := ⟨_, rfl⟩
  have kW : Keep (fun k => k = o) w W := by rw [hW]; exact Keep.setCell (Keep.refl (fun k => k = o) w) (.inl rfl) _
  have oW : W.heap[o]? = some (.cells #[.pointer (some ⟨b, 0, none⟩), .int .i64 t, .slice (some ⟨ab, off + 1, none⟩) r.length r.length, .int .i64 slot, .int .i64 err] 132 (0, 0)) := by rw [hW]; exact set_same ho.head _
  have hW' := hid hW
  have HS := hid (h.keep kW (fun k hk e => hA (e ▸ hk)))
  have HOW := hid oW
  have HKW := hid kW
  clear h ho hA hB hcell hrow hx hW kW oW
  go_enter Tryz.func9, Tryz.ntmps9
  go_wp2
  go_still_tail 18, (by kernel_rfl)
  change wpList _ _ _ _ _ w.drew
  go_wp2_with fail
  rw [show (w.setCell ⟨o, 2, none⟩ (.slice (some ⟨ab, off + 1, none⟩) r.length r.length)).drew = W.drew by rw [hW'.out]]
  have d0 : W.drew.cell? ⟨o, 0, none⟩ = some (.pointer (some ⟨b, 0, none⟩)) := cell_of (show W.drew.heap[o]? = _ from HOW.out) 0
  have d1 : W.drew.cell? ⟨o, 1, none⟩ = some (.int .i64 t) := cell_of (show W.drew.heap[o]? = _ from HOW.out) 1
  have wt : IntKind.u64.wrap t = t := by rw [IntKind.wrap_u64]; omega
  have wt1 : IntKind.u64.wrap (t + 1) = t + 1 := by rw [IntKind.wrap_u64]; omega
  clear c0 c1 c2 f2 cx l1 l2 l3 l4 l5 l6 l7 hr hcap hoz
  obtain ⟨X, hX⟩ : ∃ X, X = W.drew := ⟨_, rfl⟩
  rw [← hX] at d0 d1 ⊢
  have HSX := hid (show SP X A c b mb L F G ws log from by rw [hX]; exact HS.out.quiet (Keep.refl Nil W).drew)
  have HOX := hid (show X.heap[o]? = some (.cells #[.pointer (some ⟨b, 0, none⟩), .int .i64 t, .slice (some ⟨ab, off + 1, none⟩) r.length r.length, .int .i64 slot, .int .i64 err] 132 (0, 0)) from by rw [hX]; exact HOW.out)
  have HKX := hid (show Keep (fun k => k = o) w X from by rw [hX]; exact HKW.out.drew)
  clear hX HS HOW HKW hW' W
  have KD := hid ((Keep.refl Nil X).drew)
  go_region_held3 (fun w' => w'.cell? ⟨o, 0, none⟩ = some (.pointer (some ⟨b, 0, none⟩)) ∧ w'.cell? ⟨o, 1, none⟩ = some (.int .i64 t)) (go_keep)
    (first
      | (go_at_call 19; (with_reducible refine (bmem_ok (HSX.out.quiet KD.out)).mono ?_); rintro e w9 ⟨rfl, rfl⟩)
      | (go_at_call 19; (with_reducible refine (bmem_ok (HSX.out.quiet K8.out)).mono ?_); rintro e w9 ⟨rfl, rfl⟩)
      | (go_at_call 60; (with_reducible refine (owner_ok (HSX.out.quiet KD.out) (k : Int) (by omega) (by omega)).mono ?_); rintro e w8 ⟨rfl, hk8⟩; have K8 := hid (KD.out.trans hk8 (fun _ _ h => h)); have o8 := K8.out.at HOX.out (fun h => h); have e0 : w8.cell? ⟨o, 0, none⟩ = some (.pointer (some ⟨b, 0, none⟩)) := cell_of o8 0; have e1 : w8.cell? ⟨o, 1, none⟩ = some (.int .i64 t) := cell_of o8 1; clear hk8 o8)
      | (go_at_call 59; (with_reducible refine (cas_yes (HSX.out.quiet K8.out).mem t (k : Int) 0 (t + 1) t0 t1 (by omega) (by simpa using HX.out) hlog).mono ?_); rintro e w10 ⟨rfl, hm⟩; obtain ⟨A', ⟨L', F', G', s10⟩, k10, ft10⟩ := HSX.out.turn K8.out hm; simp only [Int.toNat_natCast] at s10; have o10 := k10.at HOX.out HA.out; have i0 : w10.cell? ⟨o, 0, none⟩ = some (.pointer (some ⟨b, 0, none⟩)) := cell_of o10 0; have i1 : w10.cell? ⟨o, 1, none⟩ = some (.int .i64 t) := cell_of o10 1; have S10 := hid s10; have KK10 := hid k10; have FT10 := hid ft10; have O10 := hid o10; clear hm s10 k10 ft10 o10))
  all_goals
    have z2 : w10.cell? ⟨o, 2, none⟩ = some (.slice (some ⟨ab, off + 1, none⟩) r.length r.length) := cell_of O10.out 2
    have z3 : w10.cell? ⟨o, 3, none⟩ = some (.int .i64 slot) := cell_of O10.out 3
    have z4 : w10.cell? ⟨o, 4, none⟩ = some (.int .i64 err) := cell_of O10.out 4
    have g2 : w10.frozen? ⟨o, 2, none⟩ = false := free_of O10.out 2
    have g3 : w10.frozen? ⟨o, 3, none⟩ = false := free_of O10.out 3
    have g4 : w10.frozen? ⟨o, 4, none⟩ = false := free_of O10.out 4
    have hz10 : o < w10.heap.size := lt_of_block O10.out
    go_wp2
    go_quiet (fail)
    go_wp2
    go_ret2
    have hh := set_same (set_same O10.out (i := 2) (.slice none 0 0)) (i := 3) (.int .i64 (k : Int))
    exact ⟨rfl, sstep_end HA.out HKX.out (lt_of_block HOX.out) S10.out KK10.out FT10.out ((Keep.setCell (Keep.setCell (Keep.refl (fun k => k = o) w10) (.inl rfl) _) (.inl rfl) _).drewN nq) (show (((w10.setCell ⟨o, 2, none⟩ (.slice none 0 0)).setCell ⟨o, 3, none⟩ (.int .i64 (k : Int))).drewN nq).heap[o]? = _ from hh) (nil_rd w) (Nat.le_refl _) (fun k e => by cases e)⟩
set_option maxRecDepth 100000 in
set_option maxHeartbeats 8000000 in
theorem sstep_no1 (h : SP w A c b mb L F G ws log) {k : Nat} {r : List Nat} (hr : 0 < r.length) {slot err : Int} (ho : OpenAt w o b t ⟨k :: r, slot, err⟩ a cp) (hA : ¬ A o) (hB : ∀ j, (Value.slice a (r.length + 1) cp).ownBlock = some j → ¬ A j) (t0 : 0 ≤ t) (t1 : t < 64) (hk : k ≤ 64) {x : Int} (hx : ws[k]? = some x) (hne : Hid (x ≠ 0)) (hlog : log.length < 1000000000000) :
    Calls Tryz.prog 9 #[.pointer (some ⟨o, 0, none⟩)] w fun e w' => e = .returned (.tuple #[.int .u8 35, .bool false]) ∧ SStepTo w A c b mb ws (log ++ [⟨t, k, 4, x, x, false⟩]) o t ⟨r, slot, err⟩ (.slice a (r.length + 1) cp) w' := by
  have hrow : Rd w 1 (.slice a (r.length + 1) cp) (r.length + 1) (nums (k :: r)) := ho.rd
  obtain ⟨ab, off, cc, hv, hcell⟩ := Rd.cell hrow (by omega)
  simp only [Value.slice.injEq] at hv
  obtain ⟨rfl, -, rfl⟩ := hv
  have hcap : (r.length + 1) ≤ cp := ho.cap
  have cx : w.cell? ⟨ab, off, none⟩ = some (.int .i64 (k : Int)) := by have := hcell 0 (.int .i64 (k : Int)) rfl; rwa [Nat.add_zero] at this
  have c0 : w.cell? ⟨o, 0, none⟩ = some (.pointer (some ⟨b, 0, none⟩)) := by rw [cell_of ho.head]; rfl
  have c1 : w.cell? ⟨o, 1, none⟩ = some (.int .i64 t) := by rw [cell_of ho.head]; rfl
  have c2 : w.cell? ⟨o, 2, none⟩ = some (.slice (some ⟨ab, off, none⟩) (r.length + 1) cp) := by rw [cell_of ho.head]; rfl
  have f2 : w.frozen? ⟨o, 2, none⟩ = false := free_of ho.head 2
  have hoz : o < w.heap.size := lt_of_block ho.head
  have hab : ab ≠ o := (ho.blk ab rfl).2
  have l1 : (((r.length : Int) + 1) == 0) = false := beq_eq_false_iff_ne.2 (by omega)
  have l2 : (0 : Int) < ((r.length : Int) + 1) := by omega
  have l3 : (1 : Int) ≤ ((r.length : Int) + 1) := by omega
  have l4 : ((r.length : Int) + 1) ≤ (cp : Int) := by omega
  have l5 : 1 ≤ (r.length + 1) := by omega
  have l6 : r.length ≠ 0 := by omega
  have l7 : 0 < r.length := hr
  have HH := hid h
  have hr' := hid hr
  have HO := hid ho
  have HA := hid hA
  have HB := hid hB
  have HX := hid hx
  have HR := hid (show Rd w 1 (.slice (some ⟨ab, off + 1, none⟩) r.length r.length) r.length (nums r) from ⟨_, _, rfl, by simp [nums, i64s, ints], .inr (.inl ⟨_, _, rfl, fun j u hu => by have := hcell (j + 1) u (nums_tail hu); rwa [show off + (j + 1) = off + 1 + j by omega] at this⟩)⟩)
  obtain ⟨W, hW⟩ : ∃ W, W = w.setCell ⟨o, 2, none⟩ (.slice (some ⟨ab, off + 1, none⟩) r.length r.length) := ⟨_, rfl⟩
  have kW : Keep (fun k => k = o) w W := by rw [hW]; exact Keep.setCell (Keep.refl (fun k => k = o) w) (.inl rfl) _
  have oW : W.heap[o]? = some (.cells #[.pointer (some ⟨b, 0, none⟩), .int .i64 t, .slice (some ⟨ab, off + 1, none⟩) r.length r.length, .int .i64 slot, .int .i64 err] 132 (0, 0)) := by rw [hW]; exact set_same ho.head _
  have hW' := hid hW
  have HS := hid (h.keep kW (fun k hk e => hA (e ▸ hk)))
  have HOW := hid oW
  have HKW := hid kW
  clear h ho hA hB hcell hrow hx hW kW oW
  go_enter Tryz.func9, Tryz.ntmps9
  go_wp2
  go_still_tail 18, (by kernel_rfl)
  change wpList _ _ _ _ _ w.drew
  go_wp2_with fail
  rw [show (w.setCell ⟨o, 2, none⟩ (.slice (some ⟨ab, off + 1, none⟩) r.length r.length)).drew = W.drew by rw [hW'.out]]
  have d0 : W.drew.cell? ⟨o, 0, none⟩ = some (.pointer (some ⟨b, 0, none⟩)) := cell_of (show W.drew.heap[o]? = _ from HOW.out) 0
  have d1 : W.drew.cell? ⟨o, 1, none⟩ = some (.int .i64 t) := cell_of (show W.drew.heap[o]? = _ from HOW.out) 1
  have wt : IntKind.u64.wrap t = t := by rw [IntKind.wrap_u64]; omega
  have wt1 : IntKind.u64.wrap (t + 1) = t + 1 := by rw [IntKind.wrap_u64]; omega
  clear c0 c1 c2 f2 cx l1 l2 l3 l4 l5 l6 l7 hr hcap hoz
  obtain ⟨X, hX⟩ : ∃ X, X = W.drew := ⟨_, rfl⟩
  rw [← hX] at d0 d1 ⊢
  have HSX := hid (show SP X A c b mb L F G ws log from by rw [hX]; exact HS.out.quiet (Keep.refl Nil W).drew)
  have HOX := hid (show X.heap[o]? = some (.cells #[.pointer (some ⟨b, 0, none⟩), .int .i64 t, .slice (some ⟨ab, off + 1, none⟩) r.length r.length, .int .i64 slot, .int .i64 err] 132 (0, 0)) from by rw [hX]; exact HOW.out)
  have HKX := hid (show Keep (fun k => k = o) w X from by rw [hX]; exact HKW.out.drew)
  clear hX HS HOW HKW hW' W
  have KD := hid ((Keep.refl Nil X).drew)
  go_region_held3 (fun w' => w'.cell? ⟨o, 0, none⟩ = some (.pointer (some ⟨b, 0, none⟩)) ∧ w'.cell? ⟨o, 1, none⟩ = some (.int .i64 t)) (go_keep)
    (first
      | (go_at_call 19; (with_reducible refine (bmem_ok (HSX.out.quiet KD.out)).mono ?_); rintro e w9 ⟨rfl, rfl⟩)
      | (go_at_call 19; (with_reducible refine (bmem_ok (HSX.out.quiet K8.out)).mono ?_); rintro e w9 ⟨rfl, rfl⟩)
      | (go_at_call 60; (with_reducible refine (owner_ok (HSX.out.quiet KD.out) (k : Int) (by omega) (by omega)).mono ?_); rintro e w8 ⟨rfl, hk8⟩; have K8 := hid (KD.out.trans hk8 (fun _ _ h => h)); have o8 := K8.out.at HOX.out (fun h => h); have e0 : w8.cell? ⟨o, 0, none⟩ = some (.pointer (some ⟨b, 0, none⟩)) := cell_of o8 0; have e1 : w8.cell? ⟨o, 1, none⟩ = some (.int .i64 t) := cell_of o8 1; clear hk8 o8)
      | (go_at_call 59; (with_reducible refine (cas_no (HSX.out.quiet K8.out).mem t (k : Int) x 0 (t + 1) t0 t1 (by omega) (by simpa using HX.out) hne.out hlog).mono ?_); rintro e w10 ⟨rfl, hm⟩; obtain ⟨A', ⟨L', F', G', s10⟩, k10, ft10⟩ := HSX.out.turn K8.out hm; simp only [Int.toNat_natCast] at s10; have o10 := k10.at HOX.out HA.out; have i0 : w10.cell? ⟨o, 0, none⟩ = some (.pointer (some ⟨b, 0, none⟩)) := cell_of o10 0; have i1 : w10.cell? ⟨o, 1, none⟩ = some (.int .i64 t) := cell_of o10 1; have S10 := hid s10; have KK10 := hid k10; have FT10 := hid ft10; have O10 := hid o10; clear hm s10 k10 ft10 o10))
  all_goals
    have z2 : w10.cell? ⟨o, 2, none⟩ = some (.slice (some ⟨ab, off + 1, none⟩) r.length r.length) := cell_of O10.out 2
    have z3 : w10.cell? ⟨o, 3, none⟩ = some (.int .i64 slot) := cell_of O10.out 3
    have z4 : w10.cell? ⟨o, 4, none⟩ = some (.int .i64 err) := cell_of O10.out 4
    have g2 : w10.frozen? ⟨o, 2, none⟩ = false := free_of O10.out 2
    have g3 : w10.frozen? ⟨o, 3, none⟩ = false := free_of O10.out 3
    have g4 : w10.frozen? ⟨o, 4, none⟩ = false := free_of O10.out 4
    have hz10 : o < w10.heap.size := lt_of_block O10.out
    have rn : ((r.length : Int) == 0) = false := beq_eq_false_iff_ne.2 (by have := hr'.out; omega)
    go_wp2
    go_quiet (fail)
    go_wp2
    go_ret2
    exact ⟨rfl, sstep_end HA.out HKX.out (lt_of_block HOX.out) S10.out KK10.out FT10.out ((Keep.refl (fun k => k = o) w10).drewN nq) (show (w10.drewN nq).heap[o]? = _ from O10.out) HR.out (Nat.le_refl _) (fun j e => by have hj : some ab = some j := e; cases hj; exact ⟨rfl, HB.out ab rfl, hab, (HO.out.blk ab rfl).1⟩)⟩
end
end Go.Proofs.YtjghenomeindcaaGreat
