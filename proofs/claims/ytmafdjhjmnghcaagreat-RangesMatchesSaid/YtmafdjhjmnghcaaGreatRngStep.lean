/- ranges: Step, Next, Result. -/
import Derived.Test.YtmafdjhjmnghcaaGreatRngLatch
set_option linter.unusedVariables false
set_option linter.unusedSimpArgs false
namespace Go.Proofs.YtmafdjhjmnghcaaGreat
open Go.RowKit Go.Lf
def KStepTo (w : World) (A : Nat → Prop) (c : Cfg) (b mb : Nat) (ws' : List Int) (log' : List Acc) (l sb m : Nat) (pc : Int) (p : KS × Int) (e : Ending) (w' : World) : Prop :=
  e = .returned (.tuple #[.int .u8 pc, .bool (p.2 == 0)]) ∧ KTo w A c b mb ws' log' l sb m { p.1 with next := p.2 } w'
section
variable {w w1 w2 w' : World} {A : Nat → Prop} {c : Cfg} {b mb L l sb m : Nat} {F G : Nat → Prop} {ws ws' : List Int} {log log' : List Acc} {s s' : KS}
set_option maxRecDepth 100000 in
set_option maxHeartbeats 4000000 in
theorem kstep_2 (h : LkAt w l sb m b s) (hn : s.next = 2) {p : KS × Int} (hact : Calls Tryz.prog 64 #[.pointer (some ⟨l, 0, none⟩)] w (KActTo w A c b mb ws' log' l sb m p)) (hA : ¬ A l) : Calls Tryz.prog 13 #[.pointer (some ⟨l, 0, none⟩)] w (KStepTo w A c b mb ws' log' l sb m 2 p) := by
  have c12 : w.cell? ⟨l, 12, none⟩ = some (.int .u8 2) := by rw [cell_of h.head, ← hn]; rfl
  have c11 : w.cell? ⟨l, 11, none⟩ = some (.map (some m)) := by rw [cell_of h.head]; rfl
  have hz : l < w.heap.size := lt_of_block h.head
  have hlk : (Instr.lookup 132 (.map (some m)) (.int .u8 2) false).run Tryz.prog w = .ok (.func (.func 64) #[] #[]) w := by
    obtain ⟨c1, c2, c3, c4, c5, c6, c7, c8, hm⟩ := h.map
    exact run_fget Tryz.underlying132 Tryz.underlying5 hm 2 (i := 0) rfl
  have HACT := hid hact
  clear h hn hact
  go_enter Tryz.func13, Tryz.ntmps13
  go_wp2_with fail
  refine HACT.out.mono ?_
  rintro e w1 ⟨rfl, A1, hl1, hk1, k1, f1⟩
  have z12 : w1.frozen? ⟨l, 12, none⟩ = false := free_of hk1.head 12
  have y12 : w1.cell? ⟨l, 12, none⟩ = some (.int .u8 p.1.next) := by rw [cell_of hk1.head]; rfl
  obtain ⟨X, hX⟩ : ∃ X, X = w1.setCell ⟨l, 12, none⟩ (.int .u8 p.2) := ⟨_, rfl⟩
  have kX : Keep (fun k => k = l) w1 X := hX ▸ (Keep.refl (fun k => k = l) w1).setCell (.inl rfl) _
  have lX : LkAt X l sb m b { p.1 with next := p.2 } := hk1.put kX (by rw [hX]; exact set_same hk1.head _) ⟨rfl, rfl⟩
  have x12 : X.cell? ⟨l, 12, none⟩ = some (.int .u8 p.2) := by rw [cell_of lX.head]; rfl
  have hnA : ¬ A1 l := fun e => (f1 l e).elim hA (fun e => by omega)
  have HT := hid (show KTo w A c b mb ws' log' l sb m { p.1 with next := p.2 } X from ⟨A1, (StoreL c b mb).keep hl1 kX (fun k hk e => hnA (e ▸ hk)), lX, k1.trans (kX.mono (T := fun k => A k ∨ k = l) (fun _ _ h => .inr h)) (fun _ _ h => h), f1⟩)
  clear hl1 hk1 k1 f1 kX lX
  go_wp2
  rw [← hX]
  clear hX y12 z12 c12 c11 hlk
  go_quiet (fail)
  go_wp2
  go_ret2
  refine ⟨rfl, ?_⟩
  obtain ⟨A', q1, q2, q3, q4⟩ := HT.out
  exact ⟨A', (StoreL c b mb).keep q1 ((Keep.refl Nil X).drewN nq) (fun _ _ h => h), q2.quiet ((Keep.refl Nil X).drewN nq), q3.drewN nq, q4⟩
set_option maxRecDepth 100000 in
set_option maxHeartbeats 4000000 in
theorem kstep_37 (h : LkAt w l sb m b s) (hn : s.next = 37) {p : KS × Int} (hact : Calls Tryz.prog 65 #[.pointer (some ⟨l, 0, none⟩)] w (KActTo w A c b mb ws' log' l sb m p)) (hA : ¬ A l) : Calls Tryz.prog 13 #[.pointer (some ⟨l, 0, none⟩)] w (KStepTo w A c b mb ws' log' l sb m 37 p) := by
  have c12 : w.cell? ⟨l, 12, none⟩ = some (.int .u8 37) := by rw [cell_of h.head, ← hn]; rfl
  have c11 : w.cell? ⟨l, 11, none⟩ = some (.map (some m)) := by rw [cell_of h.head]; rfl
  have hz : l < w.heap.size := lt_of_block h.head
  have hlk : (Instr.lookup 132 (.map (some m)) (.int .u8 37) false).run Tryz.prog w = .ok (.func (.func 65) #[] #[]) w := by
    obtain ⟨c1, c2, c3, c4, c5, c6, c7, c8, hm⟩ := h.map
    exact run_fget Tryz.underlying132 Tryz.underlying5 hm 37 (i := 1) rfl
  have HACT := hid hact
  clear h hn hact
  go_enter Tryz.func13, Tryz.ntmps13
  go_wp2_with fail
  refine HACT.out.mono ?_
  rintro e w1 ⟨rfl, A1, hl1, hk1, k1, f1⟩
  have z12 : w1.frozen? ⟨l, 12, none⟩ = false := free_of hk1.head 12
  have y12 : w1.cell? ⟨l, 12, none⟩ = some (.int .u8 p.1.next) := by rw [cell_of hk1.head]; rfl
  obtain ⟨X, hX⟩ : ∃ X, X = w1.setCell ⟨l, 12, none⟩ (.int .u8 p.2) := ⟨_, rfl⟩
  have kX : Keep (fun k => k = l) w1 X := hX ▸ (Keep.refl (fun k => k = l) w1).setCell (.inl rfl) _
  have lX : LkAt X l sb m b { p.1 with next := p.2 } := hk1.put kX (by rw [hX]; exact set_same hk1.head _) ⟨rfl, rfl⟩
  have x12 : X.cell? ⟨l, 12, none⟩ = some (.int .u8 p.2) := by rw [cell_of lX.head]; rfl
  have hnA : ¬ A1 l := fun e => (f1 l e).elim hA (fun e => by omega)
  have HT := hid (show KTo w A c b mb ws' log' l sb m { p.1 with next := p.2 } X from ⟨A1, (StoreL c b mb).keep hl1 kX (fun k hk e => hnA (e ▸ hk)), lX, k1.trans (kX.mono (T := fun k => A k ∨ k = l) (fun _ _ h => .inr h)) (fun _ _ h => h), f1⟩)
  clear hl1 hk1 k1 f1 kX lX
  go_wp2
  rw [← hX]
  clear hX y12 z12 c12 c11 hlk
  go_quiet (fail)
  go_wp2
  go_ret2
  refine ⟨rfl, ?_⟩
  obtain ⟨A', q1, q2, q3, q4⟩ := HT.out
  exact ⟨A', (StoreL c b mb).keep q1 ((Keep.refl Nil X).drewN nq) (fun _ _ h => h), q2.quiet ((Keep.refl Nil X).drewN nq), q3.drewN nq, q4⟩
set_option maxRecDepth 100000 in
set_option maxHeartbeats 4000000 in
theorem kstep_38 (h : LkAt w l sb m b s) (hn : s.next = 38) {p : KS × Int} (hact : Calls Tryz.prog 66 #[.pointer (some ⟨l, 0, none⟩)] w (KActTo w A c b mb ws' log' l sb m p)) (hA : ¬ A l) : Calls Tryz.prog 13 #[.pointer (some ⟨l, 0, none⟩)] w (KStepTo w A c b mb ws' log' l sb m 38 p) := by
  have c12 : w.cell? ⟨l, 12, none⟩ = some (.int .u8 38) := by rw [cell_of h.head, ← hn]; rfl
  have c11 : w.cell? ⟨l, 11, none⟩ = some (.map (some m)) := by rw [cell_of h.head]; rfl
  have hz : l < w.heap.size := lt_of_block h.head
  have hlk : (Instr.lookup 132 (.map (some m)) (.int .u8 38) false).run Tryz.prog w = .ok (.func (.func 66) #[] #[]) w := by
    obtain ⟨c1, c2, c3, c4, c5, c6, c7, c8, hm⟩ := h.map
    exact run_fget Tryz.underlying132 Tryz.underlying5 hm 38 (i := 2) rfl
  have HACT := hid hact
  clear h hn hact
  go_enter Tryz.func13, Tryz.ntmps13
  go_wp2_with fail
  refine HACT.out.mono ?_
  rintro e w1 ⟨rfl, A1, hl1, hk1, k1, f1⟩
  have z12 : w1.frozen? ⟨l, 12, none⟩ = false := free_of hk1.head 12
  have y12 : w1.cell? ⟨l, 12, none⟩ = some (.int .u8 p.1.next) := by rw [cell_of hk1.head]; rfl
  obtain ⟨X, hX⟩ : ∃ X, X = w1.setCell ⟨l, 12, none⟩ (.int .u8 p.2) := ⟨_, rfl⟩
  have kX : Keep (fun k => k = l) w1 X := hX ▸ (Keep.refl (fun k => k = l) w1).setCell (.inl rfl) _
  have lX : LkAt X l sb m b { p.1 with next := p.2 } := hk1.put kX (by rw [hX]; exact set_same hk1.head _) ⟨rfl, rfl⟩
  have x12 : X.cell? ⟨l, 12, none⟩ = some (.int .u8 p.2) := by rw [cell_of lX.head]; rfl
  have hnA : ¬ A1 l := fun e => (f1 l e).elim hA (fun e => by omega)
  have HT := hid (show KTo w A c b mb ws' log' l sb m { p.1 with next := p.2 } X from ⟨A1, (StoreL c b mb).keep hl1 kX (fun k hk e => hnA (e ▸ hk)), lX, k1.trans (kX.mono (T := fun k => A k ∨ k = l) (fun _ _ h => .inr h)) (fun _ _ h => h), f1⟩)
  clear hl1 hk1 k1 f1 kX lX
  go_wp2
  rw [← hX]
  clear hX y12 z12 c12 c11 hlk
  go_quiet (fail)
  go_wp2
  go_ret2
  refine ⟨rfl, ?_⟩
  obtain ⟨A', q1, q2, q3, q4⟩ := HT.out
  exact ⟨A', (StoreL c b mb).keep q1 ((Keep.refl Nil X).drewN nq) (fun _ _ h => h), q2.quiet ((Keep.refl Nil X).drewN nq), q3.drewN nq, q4⟩
set_option maxRecDepth 100000 in
set_option maxHeartbeats 4000000 in
theorem kstep_39 (h : LkAt w l sb m b s) (hn : s.next = 39) {p : KS × Int} (hact : Calls Tryz.prog 67 #[.pointer (some ⟨l, 0, none⟩)] w (KActTo w A c b mb ws' log' l sb m p)) (hA : ¬ A l) : Calls Tryz.prog 13 #[.pointer (some ⟨l, 0, none⟩)] w (KStepTo w A c b mb ws' log' l sb m 39 p) := by
  have c12 : w.cell? ⟨l, 12, none⟩ = some (.int .u8 39) := by rw [cell_of h.head, ← hn]; rfl
  have c11 : w.cell? ⟨l, 11, none⟩ = some (.map (some m)) := by rw [cell_of h.head]; rfl
  have hz : l < w.heap.size := lt_of_block h.head
  have hlk : (Instr.lookup 132 (.map (some m)) (.int .u8 39) false).run Tryz.prog w = .ok (.func (.func 67) #[] #[]) w := by
    obtain ⟨c1, c2, c3, c4, c5, c6, c7, c8, hm⟩ := h.map
    exact run_fget Tryz.underlying132 Tryz.underlying5 hm 39 (i := 3) rfl
  have HACT := hid hact
  clear h hn hact
  go_enter Tryz.func13, Tryz.ntmps13
  go_wp2_with fail
  refine HACT.out.mono ?_
  rintro e w1 ⟨rfl, A1, hl1, hk1, k1, f1⟩
  have z12 : w1.frozen? ⟨l, 12, none⟩ = false := free_of hk1.head 12
  have y12 : w1.cell? ⟨l, 12, none⟩ = some (.int .u8 p.1.next) := by rw [cell_of hk1.head]; rfl
  obtain ⟨X, hX⟩ : ∃ X, X = w1.setCell ⟨l, 12, none⟩ (.int .u8 p.2) := ⟨_, rfl⟩
  have kX : Keep (fun k => k = l) w1 X := hX ▸ (Keep.refl (fun k => k = l) w1).setCell (.inl rfl) _
  have lX : LkAt X l sb m b { p.1 with next := p.2 } := hk1.put kX (by rw [hX]; exact set_same hk1.head _) ⟨rfl, rfl⟩
  have x12 : X.cell? ⟨l, 12, none⟩ = some (.int .u8 p.2) := by rw [cell_of lX.head]; rfl
  have hnA : ¬ A1 l := fun e => (f1 l e).elim hA (fun e => by omega)
  have HT := hid (show KTo w A c b mb ws' log' l sb m { p.1 with next := p.2 } X from ⟨A1, (StoreL c b mb).keep hl1 kX (fun k hk e => hnA (e ▸ hk)), lX, k1.trans (kX.mono (T := fun k => A k ∨ k = l) (fun _ _ h => .inr h)) (fun _ _ h => h), f1⟩)
  clear hl1 hk1 k1 f1 kX lX
  go_wp2
  rw [← hX]
  clear hX y12 z12 c12 c11 hlk
  go_quiet (fail)
  go_wp2
  go_ret2
  refine ⟨rfl, ?_⟩
  obtain ⟨A', q1, q2, q3, q4⟩ := HT.out
  exact ⟨A', (StoreL c b mb).keep q1 ((Keep.refl Nil X).drewN nq) (fun _ _ h => h), q2.quiet ((Keep.refl Nil X).drewN nq), q3.drewN nq, q4⟩
set_option maxRecDepth 100000 in
set_option maxHeartbeats 4000000 in
theorem kstep_40 (h : LkAt w l sb m b s) (hn : s.next = 40) {p : KS × Int} (hact : Calls Tryz.prog 68 #[.pointer (some ⟨l, 0, none⟩)] w (KActTo w A c b mb ws' log' l sb m p)) (hA : ¬ A l) : Calls Tryz.prog 13 #[.pointer (some ⟨l, 0, none⟩)] w (KStepTo w A c b mb ws' log' l sb m 40 p) := by
  have c12 : w.cell? ⟨l, 12, none⟩ = some (.int .u8 40) := by rw [cell_of h.head, ← hn]; rfl
  have c11 : w.cell? ⟨l, 11, none⟩ = some (.map (some m)) := by rw [cell_of h.head]; rfl
  have hz : l < w.heap.size := lt_of_block h.head
  have hlk : (Instr.lookup 132 (.map (some m)) (.int .u8 40) false).run Tryz.prog w = .ok (.func (.func 68) #[] #[]) w := by
    obtain ⟨c1, c2, c3, c4, c5, c6, c7, c8, hm⟩ := h.map
    exact run_fget Tryz.underlying132 Tryz.underlying5 hm 40 (i := 4) rfl
  have HACT := hid hact
  clear h hn hact
  go_enter Tryz.func13, Tryz.ntmps13
  go_wp2_with fail
  refine HACT.out.mono ?_
  rintro e w1 ⟨rfl, A1, hl1, hk1, k1, f1⟩
  have z12 : w1.frozen? ⟨l, 12, none⟩ = false := free_of hk1.head 12
  have y12 : w1.cell? ⟨l, 12, none⟩ = some (.int .u8 p.1.next) := by rw [cell_of hk1.head]; rfl
  obtain ⟨X, hX⟩ : ∃ X, X = w1.setCell ⟨l, 12, none⟩ (.int .u8 p.2) := ⟨_, rfl⟩
  have kX : Keep (fun k => k = l) w1 X := hX ▸ (Keep.refl (fun k => k = l) w1).setCell (.inl rfl) _
  have lX : LkAt X l sb m b { p.1 with next := p.2 } := hk1.put kX (by rw [hX]; exact set_same hk1.head _) ⟨rfl, rfl⟩
  have x12 : X.cell? ⟨l, 12, none⟩ = some (.int .u8 p.2) := by rw [cell_of lX.head]; rfl
  have hnA : ¬ A1 l := fun e => (f1 l e).elim hA (fun e => by omega)
  have HT := hid (show KTo w A c b mb ws' log' l sb m { p.1 with next := p.2 } X from ⟨A1, (StoreL c b mb).keep hl1 kX (fun k hk e => hnA (e ▸ hk)), lX, k1.trans (kX.mono (T := fun k => A k ∨ k = l) (fun _ _ h => .inr h)) (fun _ _ h => h), f1⟩)
  clear hl1 hk1 k1 f1 kX lX
  go_wp2
  rw [← hX]
  clear hX y12 z12 c12 c11 hlk
  go_quiet (fail)
  go_wp2
  go_ret2
  refine ⟨rfl, ?_⟩
  obtain ⟨A', q1, q2, q3, q4⟩ := HT.out
  exact ⟨A', (StoreL c b mb).keep q1 ((Keep.refl Nil X).drewN nq) (fun _ _ h => h), q2.quiet ((Keep.refl Nil X).drewN nq), q3.drewN nq, q4⟩
set_option maxRecDepth 100000 in
set_option maxHeartbeats 4000000 in
theorem kstep_41 (h : LkAt w l sb m b s) (hn : s.next = 41) {p : KS × Int} (hact : Calls Tryz.prog 69 #[.pointer (some ⟨l, 0, none⟩)] w (KActTo w A c b mb ws' log' l sb m p)) (hA : ¬ A l) : Calls Tryz.prog 13 #[.pointer (some ⟨l, 0, none⟩)] w (KStepTo w A c b mb ws' log' l sb m 41 p) := by
  have c12 : w.cell? ⟨l, 12, none⟩ = some (.int .u8 41) := by rw [cell_of h.head, ← hn]; rfl
  have c11 : w.cell? ⟨l, 11, none⟩ = some (.map (some m)) := by rw [cell_of h.head]; rfl
  have hz : l < w.heap.size := lt_of_block h.head
  have hlk : (Instr.lookup 132 (.map (some m)) (.int .u8 41) false).run Tryz.prog w = .ok (.func (.func 69) #[] #[]) w := by
    obtain ⟨c1, c2, c3, c4, c5, c6, c7, c8, hm⟩ := h.map
    exact run_fget Tryz.underlying132 Tryz.underlying5 hm 41 (i := 5) rfl
  have HACT := hid hact
  clear h hn hact
  go_enter Tryz.func13, Tryz.ntmps13
  go_wp2_with fail
  refine HACT.out.mono ?_
  rintro e w1 ⟨rfl, A1, hl1, hk1, k1, f1⟩
  have z12 : w1.frozen? ⟨l, 12, none⟩ = false := free_of hk1.head 12
  have y12 : w1.cell? ⟨l, 12, none⟩ = some (.int .u8 p.1.next) := by rw [cell_of hk1.head]; rfl
  obtain ⟨X, hX⟩ : ∃ X, X = w1.setCell ⟨l, 12, none⟩ (.int .u8 p.2) := ⟨_, rfl⟩
  have kX : Keep (fun k => k = l) w1 X := hX ▸ (Keep.refl (fun k => k = l) w1).setCell (.inl rfl) _
  have lX : LkAt X l sb m b { p.1 with next := p.2 } := hk1.put kX (by rw [hX]; exact set_same hk1.head _) ⟨rfl, rfl⟩
  have x12 : X.cell? ⟨l, 12, none⟩ = some (.int .u8 p.2) := by rw [cell_of lX.head]; rfl
  have hnA : ¬ A1 l := fun e => (f1 l e).elim hA (fun e => by omega)
  have HT := hid (show KTo w A c b mb ws' log' l sb m { p.1 with next := p.2 } X from ⟨A1, (StoreL c b mb).keep hl1 kX (fun k hk e => hnA (e ▸ hk)), lX, k1.trans (kX.mono (T := fun k => A k ∨ k = l) (fun _ _ h => .inr h)) (fun _ _ h => h), f1⟩)
  clear hl1 hk1 k1 f1 kX lX
  go_wp2
  rw [← hX]
  clear hX y12 z12 c12 c11 hlk
  go_quiet (fail)
  go_wp2
  go_ret2
  refine ⟨rfl, ?_⟩
  obtain ⟨A', q1, q2, q3, q4⟩ := HT.out
  exact ⟨A', (StoreL c b mb).keep q1 ((Keep.refl Nil X).drewN nq) (fun _ _ h => h), q2.quiet ((Keep.refl Nil X).drewN nq), q3.drewN nq, q4⟩
set_option maxRecDepth 100000 in
set_option maxHeartbeats 4000000 in
theorem kstep_42 (h : LkAt w l sb m b s) (hn : s.next = 42) {p : KS × Int} (hact : Calls Tryz.prog 70 #[.pointer (some ⟨l, 0, none⟩)] w (KActTo w A c b mb ws' log' l sb m p)) (hA : ¬ A l) : Calls Tryz.prog 13 #[.pointer (some ⟨l, 0, none⟩)] w (KStepTo w A c b mb ws' log' l sb m 42 p) := by
  have c12 : w.cell? ⟨l, 12, none⟩ = some (.int .u8 42) := by rw [cell_of h.head, ← hn]; rfl
  have c11 : w.cell? ⟨l, 11, none⟩ = some (.map (some m)) := by rw [cell_of h.head]; rfl
  have hz : l < w.heap.size := lt_of_block h.head
  have hlk : (Instr.lookup 132 (.map (some m)) (.int .u8 42) false).run Tryz.prog w = .ok (.func (.func 70) #[] #[]) w := by
    obtain ⟨c1, c2, c3, c4, c5, c6, c7, c8, hm⟩ := h.map
    exact run_fget Tryz.underlying132 Tryz.underlying5 hm 42 (i := 6) rfl
  have HACT := hid hact
  clear h hn hact
  go_enter Tryz.func13, Tryz.ntmps13
  go_wp2_with fail
  refine HACT.out.mono ?_
  rintro e w1 ⟨rfl, A1, hl1, hk1, k1, f1⟩
  have z12 : w1.frozen? ⟨l, 12, none⟩ = false := free_of hk1.head 12
  have y12 : w1.cell? ⟨l, 12, none⟩ = some (.int .u8 p.1.next) := by rw [cell_of hk1.head]; rfl
  obtain ⟨X, hX⟩ : ∃ X, X = w1.setCell ⟨l, 12, none⟩ (.int .u8 p.2) := ⟨_, rfl⟩
  have kX : Keep (fun k => k = l) w1 X := hX ▸ (Keep.refl (fun k => k = l) w1).setCell (.inl rfl) _
  have lX : LkAt X l sb m b { p.1 with next := p.2 } := hk1.put kX (by rw [hX]; exact set_same hk1.head _) ⟨rfl, rfl⟩
  have x12 : X.cell? ⟨l, 12, none⟩ = some (.int .u8 p.2) := by rw [cell_of lX.head]; rfl
  have hnA : ¬ A1 l := fun e => (f1 l e).elim hA (fun e => by omega)
  have HT := hid (show KTo w A c b mb ws' log' l sb m { p.1 with next := p.2 } X from ⟨A1, (StoreL c b mb).keep hl1 kX (fun k hk e => hnA (e ▸ hk)), lX, k1.trans (kX.mono (T := fun k => A k ∨ k = l) (fun _ _ h => .inr h)) (fun _ _ h => h), f1⟩)
  clear hl1 hk1 k1 f1 kX lX
  go_wp2
  rw [← hX]
  clear hX y12 z12 c12 c11 hlk
  go_quiet (fail)
  go_wp2
  go_ret2
  refine ⟨rfl, ?_⟩
  obtain ⟨A', q1, q2, q3, q4⟩ := HT.out
  exact ⟨A', (StoreL c b mb).keep q1 ((Keep.refl Nil X).drewN nq) (fun _ _ h => h), q2.quiet ((Keep.refl Nil X).drewN nq), q3.drewN nq, q4⟩
set_option maxRecDepth 100000 in
set_option maxHeartbeats 4000000 in
theorem kstep_3 (h : LkAt w l sb m b s) (hn : s.next = 3) {p : KS × Int} (hact : Calls Tryz.prog 71 #[.pointer (some ⟨l, 0, none⟩)] w (KActTo w A c b mb ws' log' l sb m p)) (hA : ¬ A l) : Calls Tryz.prog 13 #[.pointer (some ⟨l, 0, none⟩)] w (KStepTo w A c b mb ws' log' l sb m 3 p) := by
  have c12 : w.cell? ⟨l, 12, none⟩ = some (.int .u8 3) := by rw [cell_of h.head, ← hn]; rfl
  have c11 : w.cell? ⟨l, 11, none⟩ = some (.map (some m)) := by rw [cell_of h.head]; rfl
  have hz : l < w.heap.size := lt_of_block h.head
  have hlk : (Instr.lookup 132 (.map (some m)) (.int .u8 3) false).run Tryz.prog w = .ok (.func (.func 71) #[] #[]) w := by
    obtain ⟨c1, c2, c3, c4, c5, c6, c7, c8, hm⟩ := h.map
    exact run_fget Tryz.underlying132 Tryz.underlying5 hm 3 (i := 7) rfl
  have HACT := hid hact
  clear h hn hact
  go_enter Tryz.func13, Tryz.ntmps13
  go_wp2_with fail
  refine HACT.out.mono ?_
  rintro e w1 ⟨rfl, A1, hl1, hk1, k1, f1⟩
  have z12 : w1.frozen? ⟨l, 12, none⟩ = false := free_of hk1.head 12
  have y12 : w1.cell? ⟨l, 12, none⟩ = some (.int .u8 p.1.next) := by rw [cell_of hk1.head]; rfl
  obtain ⟨X, hX⟩ : ∃ X, X = w1.setCell ⟨l, 12, none⟩ (.int .u8 p.2) := ⟨_, rfl⟩
  have kX : Keep (fun k => k = l) w1 X := hX ▸ (Keep.refl (fun k => k = l) w1).setCell (.inl rfl) _
  have lX : LkAt X l sb m b { p.1 with next := p.2 } := hk1.put kX (by rw [hX]; exact set_same hk1.head _) ⟨rfl, rfl⟩
  have x12 : X.cell? ⟨l, 12, none⟩ = some (.int .u8 p.2) := by rw [cell_of lX.head]; rfl
  have hnA : ¬ A1 l := fun e => (f1 l e).elim hA (fun e => by omega)
  have HT := hid (show KTo w A c b mb ws' log' l sb m { p.1 with next := p.2 } X from ⟨A1, (StoreL c b mb).keep hl1 kX (fun k hk e => hnA (e ▸ hk)), lX, k1.trans (kX.mono (T := fun k => A k ∨ k = l) (fun _ _ h => .inr h)) (fun _ _ h => h), f1⟩)
  clear hl1 hk1 k1 f1 kX lX
  go_wp2
  rw [← hX]
  clear hX y12 z12 c12 c11 hlk
  go_quiet (fail)
  go_wp2
  go_ret2
  refine ⟨rfl, ?_⟩
  obtain ⟨A', q1, q2, q3, q4⟩ := HT.out
  exact ⟨A', (StoreL c b mb).keep q1 ((Keep.refl Nil X).drewN nq) (fun _ _ h => h), q2.quiet ((Keep.refl Nil X).drewN nq), q3.drewN nq, q4⟩
set_option maxHeartbeats 4000000 in
theorem knext_ok (h : LkAt w l sb m b s) : Calls Tryz.prog 15 #[.pointer (some ⟨l, 0, none⟩)] w fun e w' => e = .returned (.int .u8 s.next) ∧ w = w' := by
  have c12 : w.cell? ⟨l, 12, none⟩ = some (.int .u8 s.next) := by rw [cell_of h.head]; rfl
  clear h
  go_enter Tryz.func15, Tryz.ntmps15
  go_wp2
  go_ret
  exact ⟨rfl, rfl⟩
theorem knext_nil : Calls Tryz.prog 15 #[.pointer none] w fun e w' => e = .returned (.int .u8 0) ∧ w = w' := by
  go_enter Tryz.func15, Tryz.ntmps15
  go_wp2
  go_ret
  exact ⟨rfl, rfl⟩
theorem kstep_nil : Calls Tryz.prog 13 #[.pointer none] w fun e w' => e = .returned (.tuple #[.int .u8 0, .bool false]) ∧ w = w' := by
  go_enter Tryz.func13, Tryz.ntmps13
  go_wp2
  go_ret2
  exact ⟨rfl, rfl⟩
theorem kstep_idle (h : LkAt w l sb m b s) (hn : s.next = 0) : Calls Tryz.prog 13 #[.pointer (some ⟨l, 0, none⟩)] w fun e w' => e = .returned (.tuple #[.int .u8 0, .bool false]) ∧ Keep Nil w w' := by
  have c12 : w.cell? ⟨l, 12, none⟩ = some (.int .u8 0) := by rw [cell_of h.head, ← hn]; rfl
  have z := lt_of_block h.head
  clear h hn
  go_enter Tryz.func13, Tryz.ntmps13
  go_wp2
  go_ret2
  exact ⟨rfl, Keep.refl Nil w⟩
theorem kres_nil : Calls Tryz.prog 14 #[.pointer none] w fun e w' => e = .returned (.tuple #[.int .i64 0, .int .i64 0, .int .i64 1]) ∧ w = w' := by
  go_enter Tryz.func14, Tryz.ntmps14
  go_wp2
  go_ret3
  exact ⟨rfl, rfl⟩
set_option maxHeartbeats 4000000 in
theorem kres_ok (h : LkAt w l sb m b s) (e f er : Int) (hr : KS.res s = (e, f, er)) : Calls Tryz.prog 14 #[.pointer (some ⟨l, 0, none⟩)] w fun e' w' => e' = .returned (.tuple #[.int .i64 e, .int .i64 f, .int .i64 er]) ∧ Keep Nil w w' := by
  have c12 : w.cell? ⟨l, 12, none⟩ = some (.int .u8 s.next) := by rw [cell_of h.head]; rfl
  have c13 : w.cell? ⟨l, 13, none⟩ = some (.int .i64 s.err) := by rw [cell_of h.head]; rfl
  have c5 : w.cell? ⟨l, 5, none⟩ = some (.int .i64 s.fails) := by rw [cell_of h.head]; rfl
  have c7 : w.cell? ⟨l, 7, none⟩ = some (.int .i64 s.free) := by rw [cell_of h.head]; rfl
  have H := hid h
  clear h
  unfold KS.res at hr
  by_cases h1 : s.next ≠ 0
  · have d1 : (s.next != 0) = true := by simpa using h1
    rw [if_pos h1] at hr
    simp only [Prod.mk.injEq] at hr
    obtain ⟨rfl, rfl, rfl⟩ := hr
    clear h1
    go_enter Tryz.func14, Tryz.ntmps14
    go_wp2
    go_ret3
    exact ⟨rfl, Keep.refl _ _⟩
  · have d1 : (s.next != 0) = false := by simpa using h1
    rw [if_neg h1] at hr
    clear h1
    by_cases h2 : s.err ≠ 0
    · have d2 : (s.err != 0) = true := by simpa using h2
      rw [if_pos h2] at hr
      simp only [Prod.mk.injEq] at hr
      obtain ⟨rfl, rfl, rfl⟩ := hr
      clear h2
      go_enter Tryz.func14, Tryz.ntmps14
      go_wp2
      go_quiet (fail)
      go_wp2
      go_ret3
      exact ⟨rfl, (Keep.refl _ _).drewN nq⟩
    · have d2 : (s.err != 0) = false := by simpa using h2
      rw [if_neg h2] at hr
      simp only [Prod.mk.injEq] at hr
      obtain ⟨rfl, rfl, rfl⟩ := hr
      clear h2
      go_enter Tryz.func14, Tryz.ntmps14
      go_wp2
      go_quiet (fail)
      go_wp2
      go_ret3
      exact ⟨rfl, (Keep.refl _ _).drewN nq⟩
theorem klk (hok : c.ok) : (c.lk : Int) ≤ 16 ∧ 1 ≤ (c.lk : Int) := by have := hok.lk1; have := hok.lk2; omega
/-- A step. -/
theorem kstep_ok (h : KIn w A c b mb L l sb m F G ws log s) (hg : s.good c.lk) (hl : log.length + 1 < 1000000000) (x : Int) (hx : ws[s.at c.master c.locks]? = some x) :
    Calls Tryz.prog 13 #[.pointer (some ⟨l, 0, none⟩)] w (KStepTo w A c b mb (s.ws c.master c.locks ws x) (log ++ [s.acc c.master c.locks x]) l sb m s.next (s.act c.lk x)) := by
  obtain ⟨k1, k2⟩ := klk h.ok
  have hfr := hg.fr
  rcases hg.nx with e | e | e | e | e | e | e | e
  · have hat : s.at c.master c.locks = c.master := if_pos e
    rw [hat] at hx
    rw [e]
    by_cases hx0 : x = 0
    · subst hx0
      have h1 : s.ws c.master c.locks ws 0 = ws.set c.master (s.th + 1) := by unfold KS.ws KS.put; rw [if_pos e, if_pos rfl, hat]
      have h2 : s.acc c.master c.locks 0 = ⟨s.th, (c.master : Int), 4, 0, s.th + 1, true⟩ := by unfold KS.acc; rw [if_pos e, if_pos rfl, hat]
      have h3 : s.act c.lk 0 = ({ s with entry := 0, free := -1, conf := false }, 37) := by unfold KS.act; rw [if_pos e, if_pos rfl]
      rw [h1, h2, h3]
      exact kstep_2 h.lk e (klatch_yes h hl hx) h.n1
    · have h1 : s.ws c.master c.locks ws x = ws := by unfold KS.ws KS.put; rw [if_pos e, if_neg hx0]
      have h2 : s.acc c.master c.locks x = ⟨s.th, (c.master : Int), 4, x, x, false⟩ := by unfold KS.acc; rw [if_pos e, if_neg hx0, hat]
      have h3 : s.act c.lk x = ({ s with fails := s.fails + 1 } : KS).again := by unfold KS.act; rw [if_pos e, if_neg hx0]
      rw [h1, h2, h3]
      exact kstep_2 h.lk e (klatch_no h hg.fl hl x hx0 hx) h.n1
  · obtain ⟨e0, e1⟩ := hg.en (by omega)
    have hat : s.at c.master c.locks = c.locks + 3 * s.entry.toNat := by unfold KS.at; rw [if_neg (by omega), if_pos e]
    have hp : s.put x = none := by unfold KS.put; rw [if_neg (by omega), if_neg (by omega), if_neg (by omega), if_neg (by omega), if_neg (by omega)]
    have h1 : s.ws c.master c.locks ws x = ws := by unfold KS.ws; rw [hp]
    have h2 : s.acc c.master c.locks x = ⟨s.th, (c.locks : Int) + 3 * s.entry + 0, 1, x, x, false⟩ := by
      unfold KS.acc; rw [if_neg (by omega), hp, hat]; simp only [Acc.mk.injEq]; exact ⟨trivial, by omega, trivial, trivial, trivial, trivial⟩
    have h3 : s.act c.lk x = (if x = 0 then ({ s with free := if s.free < 0 then s.entry else s.free } : KS).follow c.lk else (s, 38)) := by unfold KS.act; rw [if_neg (by omega), if_pos e]
    rw [hat] at hx
    rw [e, h1, h2, h3]
    exact kstep_37 h.lk e (kused_ok h e0 (by omega) hg.fl hl x hx) h.n1
  · obtain ⟨e0, e1⟩ := hg.en (by omega)
    have hat : s.at c.master c.locks = c.locks + 3 * s.entry.toNat + 1 := by unfold KS.at; rw [if_neg (by omega), if_neg (by omega), if_pos e]
    have hp : s.put x = none := by unfold KS.put; rw [if_neg (by omega), if_neg (by omega), if_neg (by omega), if_neg (by omega), if_neg (by omega)]
    have h1 : s.ws c.master c.locks ws x = ws := by unfold KS.ws; rw [hp]
    have h2 : s.acc c.master c.locks x = ⟨s.th, (c.locks : Int) + 3 * s.entry + 1, 1, x, x, false⟩ := by
      unfold KS.acc; rw [if_neg (by omega), hp, hat]; simp only [Acc.mk.injEq]; exact ⟨trivial, by omega, trivial, trivial, trivial, trivial⟩
    have h3 : s.act c.lk x = ({ s with low := x }, 39) := by unfold KS.act; rw [if_neg (by omega), if_neg (by omega), if_pos e]
    rw [hat] at hx
    rw [e, h1, h2, h3]
    exact kstep_38 h.lk e (klower_ok h e0 (by omega) hl x hx) h.n1
  · obtain ⟨e0, e1⟩ := hg.en (by omega)
    have hat : s.at c.master c.locks = c.locks + 3 * s.entry.toNat + 2 := by unfold KS.at; rw [if_neg (by omega), if_neg (by omega), if_neg (by omega), if_pos e]
    have hp : s.put x = none := by unfold KS.put; rw [if_neg (by omega), if_neg (by omega), if_neg (by omega), if_neg (by omega), if_neg (by omega)]
    have h1 : s.ws c.master c.locks ws x = ws := by unfold KS.ws; rw [hp]
    have h2 : s.acc c.master c.locks x = ⟨s.th, (c.locks : Int) + 3 * s.entry + 2, 1, x, x, false⟩ := by
      unfold KS.acc; rw [if_neg (by omega), hp, hat]; simp only [Acc.mk.injEq]; exact ⟨trivial, by omega, trivial, trivial, trivial, trivial⟩
    have h3 : s.act c.lk x = (if s.low ≤ s.hi ∧ s.lo ≤ x then s.clash else s.follow c.lk) := by unfold KS.act; rw [if_neg (by omega), if_neg (by omega), if_neg (by omega), if_pos e]
    rw [hat] at hx
    rw [e, h1, h2, h3]
    exact kstep_39 h.lk e (khigher_ok h e0 (by omega) hg.fl hl x hx) h.n1
  · have f0 := hg.fs (by omega)
    have hat : s.at c.master c.locks = c.locks + 3 * s.free.toNat + 1 := by unfold KS.at; rw [if_neg (by omega), if_neg (by omega), if_neg (by omega), if_neg (by omega), if_pos e]
    have hp : s.put x = some s.lo := by unfold KS.put; rw [if_neg (by omega), if_pos e]
    have h1 : s.ws c.master c.locks ws x = ws.set (c.locks + 3 * s.free.toNat + 1) s.lo := by unfold KS.ws; rw [hp, hat]
    have h2 : s.acc c.master c.locks x = ⟨s.th, (c.locks : Int) + 3 * s.free + 1, 2, x, s.lo, false⟩ := by
      unfold KS.acc; rw [if_neg (by omega), hp, hat]; simp only [Acc.mk.injEq]; exact ⟨trivial, by omega, trivial, trivial, trivial, trivial⟩
    have h3 : s.act c.lk x = (s, 41) := by unfold KS.act; rw [if_neg (by omega), if_neg (by omega), if_neg (by omega), if_neg (by omega), if_pos e]
    rw [hat] at hx
    rw [e, h1, h2, h3]
    exact kstep_40 h.lk e (ksetLow_ok h f0 (by omega) hg.l0 hl x hx) h.n1
  · have f0 := hg.fs (by omega)
    have hat : s.at c.master c.locks = c.locks + 3 * s.free.toNat + 2 := by unfold KS.at; rw [if_neg (by omega), if_neg (by omega), if_neg (by omega), if_neg (by omega), if_neg (by omega), if_pos e]
    have hp : s.put x = some s.hi := by unfold KS.put; rw [if_neg (by omega), if_neg (by omega), if_pos e]
    have h1 : s.ws c.master c.locks ws x = ws.set (c.locks + 3 * s.free.toNat + 2) s.hi := by unfold KS.ws; rw [hp, hat]
    have h2 : s.acc c.master c.locks x = ⟨s.th, (c.locks : Int) + 3 * s.free + 2, 2, x, s.hi, false⟩ := by
      unfold KS.acc; rw [if_neg (by omega), hp, hat]; simp only [Acc.mk.injEq]; exact ⟨trivial, by omega, trivial, trivial, trivial, trivial⟩
    have h3 : s.act c.lk x = (s, 42) := by unfold KS.act; rw [if_neg (by omega), if_neg (by omega), if_neg (by omega), if_neg (by omega), if_neg (by omega), if_pos e]
    rw [hat] at hx
    rw [e, h1, h2, h3]
    exact kstep_41 h.lk e (ksetHigh_ok h f0 (by omega) hg.h0 hl x hx) h.n1
  · have f0 := hg.fs (by omega)
    have hat : s.at c.master c.locks = c.locks + 3 * s.free.toNat := by unfold KS.at; rw [if_neg (by omega), if_neg (by omega), if_neg (by omega), if_neg (by omega), if_neg (by omega), if_neg (by omega), if_pos e]
    have hp : s.put x = some 1 := by unfold KS.put; rw [if_neg (by omega), if_neg (by omega), if_neg (by omega), if_pos e]
    have h1 : s.ws c.master c.locks ws x = ws.set (c.locks + 3 * s.free.toNat) 1 := by unfold KS.ws; rw [hp, hat]
    have h2 : s.acc c.master c.locks x = ⟨s.th, (c.locks : Int) + 3 * s.free + 0, 2, x, 1, false⟩ := by
      unfold KS.acc; rw [if_neg (by omega), hp, hat]; simp only [Acc.mk.injEq]; exact ⟨trivial, by omega, trivial, trivial, trivial, trivial⟩
    have h3 : s.act c.lk x = (s, 3) := by unfold KS.act; rw [if_neg (by omega), if_neg (by omega), if_neg (by omega), if_neg (by omega), if_neg (by omega), if_neg (by omega), if_pos e]
    rw [hat] at hx
    rw [e, h1, h2, h3]
    exact kstep_42 h.lk e (ksetUsed_ok h f0 (by omega) hl x hx) h.n1
  · have hat : s.at c.master c.locks = c.master := by unfold KS.at; rw [if_neg (by omega), if_neg (by omega), if_neg (by omega), if_neg (by omega), if_neg (by omega), if_neg (by omega), if_neg (by omega)]
    have hp : s.put x = some 0 := by unfold KS.put; rw [if_neg (by omega), if_neg (by omega), if_neg (by omega), if_neg (by omega), if_pos e]
    have h1 : s.ws c.master c.locks ws x = ws.set c.master 0 := by unfold KS.ws; rw [hp, hat]
    have h2 : s.acc c.master c.locks x = ⟨s.th, (c.master : Int), 2, x, 0, false⟩ := by
      unfold KS.acc; rw [if_neg (by omega), hp, hat]
    have h3 : s.act c.lk x = (if s.conf = true then s.again else (s, 0)) := by unfold KS.act; rw [if_neg (by omega), if_neg (by omega), if_neg (by omega), if_neg (by omega), if_neg (by omega), if_neg (by omega), if_neg (by omega)]
    rw [hat] at hx
    rw [e, h1, h2, h3]
    exact kstep_3 h.lk e (kunlatch_ok h hl x hx) h.n1
end
end Go.Proofs.YtmafdjhjmnghcaaGreat
