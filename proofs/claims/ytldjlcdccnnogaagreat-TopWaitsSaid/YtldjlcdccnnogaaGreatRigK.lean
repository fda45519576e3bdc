/- A rig's pick. -/
import Derived.Test.YtldjlcdccnnogaaGreatMgRig
import Derived.Test.YtldjlcdccnnogaaGreatIndex
import Derived.Laws.ResultCell
set_option linter.unusedVariables false
set_option linter.unusedSimpArgs false
namespace Go.Lf
open Go.RowKit
theorem results_cell_row2 {P : Program} {fn : Func} {p u : Tmp} {ty : TypeId} (h : fn.results = #[.cell p ty, .tmp u]) (tmps : Array Value) (w : World) (g : Nat) (t : TypeId) (cs : Array Value) (fr : Nat × Nat) (d : TypeDesc)
    (hp : tmps.getD p undef = .pointer (some ⟨g, 0, none⟩)) (hg : w.heap[g]? = some (.cells cs t fr))
    (hu : P.underlying ty = some d) (hd : (match d with | .struct _ | .array _ _ => true | _ => false) = true) (hi : (P.info? ty).map (·.size) = some cs.size) :
    (results fn tmps).run P w = .ok (.tuple #[.agg cs, tmps.getD u undef]) w := by
  rw [results_cell_tmp h]
  have hp' : tmps[p]?.getD undef = .pointer (some ⟨g, 0, none⟩) := by simpa using hp
  simp [hp', asAddr, run_loadVar_row w g t ty cs fr d hg hu hd hi, Result.andThen]
end Go.Lf
namespace Go.Proofs.YtldjlcdccnnogaaGreat
open Go.RowKit Go.Lf
section
variable {w w' : World}
set_option maxHeartbeats 1000000 in
theorem pkcheck_ok (n : Nat) (h0 : 0 < n) (h1 : n ≤ 6) : Calls Tryz.prog 32 #[.int .i64 n, .int .i64 0, .int .i64 0] w fun e w' => e = .returned (.int .i64 0) ∧ w = w' := by
  have d1 : decide ((n : Int) < 1) = false := decide_eq_false (by omega)
  have d2 : decide ((64 : Int) < (n : Int)) = false := decide_eq_false (by omega)
  have d3 : decide ((n : Int) ≤ 0) = false := decide_eq_false (by omega)
  have d4 : decide (n < 1) = false := decide_eq_false (by omega)
  have d5 : decide (64 < n) = false := decide_eq_false (by omega)
  have d6 : decide (n ≤ 0) = false := decide_eq_false (by omega)
  have d7 : decide (n = 0) = false := decide_eq_false (by omega)
  clear h0 h1
  go_enter Tryz.func32, Tryz.ntmps32
  go_wp2
  go_ret
  exact ⟨rfl, rfl⟩
theorem pkof_any (i n : Int) (_b0 : -9223372036854775808 ≤ i) (_b1 : i ≤ 9223372036854775807) (h0 : 0 < n) (h1 : n ≤ 1000000) (w : World) :
    Calls Tryz.prog 33 #[.int .i64 n, .int .i64 i] w fun e w' => e = .returned (.int .i64 (i % n)) ∧ w = w' := by
  have hn : (n == 0) = false := beq_eq_false_iff_ne.2 (by omega)
  have h2 := Int.tmod_lt_of_pos i h0
  have h3 := tmod_low' i n h0
  rw [← within_eq' i n]
  go_enter Tryz.func33, Tryz.ntmps33
  go_wp2
  go_ret
  exact ⟨rfl, rfl⟩
theorem pkthread_ok (n : Nat) (i : Int) (b0 : -9223372036854775808 ≤ i) (b1 : i ≤ 9223372036854775807) (h0 : 0 < n) (h1 : n ≤ 6) : Calls Tryz.prog 14 #[.int .i64 n, .int .i64 i] w fun e w' => e = .returned (.tuple #[.int .i64 (i % n), .int .i64 0]) ∧ w = w' := by
  have HC := hid (@pkcheck_ok w n h0 h1)
  have HO := hid (pkof_any i n b0 b1 (by omega) (by omega) w)
  clear b0 b1 h0 h1
  go_enter Tryz.func14, Tryz.ntmps14
  go_wp2_with fail
  refine HC.out.mono ?_
  rintro e w' ⟨rfl, rfl⟩
  go_wp2_with fail
  refine HO.out.mono ?_
  rintro e w' ⟨rfl, rfl⟩
  go_wp2
  go_ret2
  exact ⟨rfl, rfl⟩
variable {n : Nat} {E : PrW n} {C : RgC} {A A0 : Nat → Prop} {arr : Array Value} {ev : Value} {s : RgS} {k : Nat}
theorem RgAt.quiet (h : RgAt E C w A0 arr ev s) (hk : Keep Nil w w') : RgAt E C w' A0 arr ev s := by
  obtain ⟨c1, c2, c3, h1⟩ := h.kn
  have := hk.size
  exact ⟨hk.at h.hm (fun e => e), hk.at h.hb (fun e => e), h.tc, ⟨c1, c2, c3, h1.keep hk (fun e => e)⟩, fun k hk' => by
      obtain ⟨a, b, c⟩ := h.ops k hk'
      exact ⟨rd_keep a hk (fun j hj e => e), b, fun j hj => by obtain ⟨p, q, r, u⟩ := c j hj; exact ⟨p, q, r, by omega⟩⟩, row_keep h.row hk (fun _ _ e => e), E.P.keep h.eng hk (fun _ _ e => e), h.nc, h.bm, h.bt, h.br, fun j hj => by obtain ⟨a, b⟩ := h.bl j hj; exact ⟨by omega, b⟩, h.be⟩
abbrev stTy : TypeId := 31
theorem pkSizeStep : (Tryz.prog.info? stTy).map (·.size) = some 5 := by kernel_rfl
theorem put5 {V : World} {r : Nat} {a0 a1 a2 a3 a4 : Value} (o : V.heap[r]? = some (.cells #[a0, a1, a2, a3, a4] stTy (0, 0))) (b0 b1 b2 b3 b4 : Value) :
    (((((V.setCell ⟨r, 0, none⟩ b0).setCell ⟨r, 1, none⟩ b1).setCell ⟨r, 2, none⟩ b2).setCell ⟨r, 3, none⟩ b3).setCell ⟨r, 4, none⟩ b4).heap[r]? = some (.cells #[b0, b1, b2, b3, b4] stTy (0, 0)) ∧
      Keep (fun k => k = r) V (((((V.setCell ⟨r, 0, none⟩ b0).setCell ⟨r, 1, none⟩ b1).setCell ⟨r, 2, none⟩ b2).setCell ⟨r, 3, none⟩ b3).setCell ⟨r, 4, none⟩ b4) :=
  ⟨set_same (set_same (set_same (set_same (set_same o _) _) _) _) _, Keep.setCell (S := fun k => k = r) (Keep.setCell (S := fun k => k = r) (Keep.setCell (S := fun k => k = r) (Keep.setCell (S := fun k => k = r) (Keep.setCell (S := fun k => k = r) (Keep.refl _ _) (.inl rfl) _) (.inl rfl) _) (.inl rfl) _) (.inl rfl) _) (.inl rfl) _⟩
theorem to_after {σ : Type} {P : Lies σ} {w w1 w2 w3 : World} {A S : Nat → Prop} {s : σ} (k0 : Keep Nil w w1) (h : P.To w1 A s w2) (hk : Keep S w2 w3) (hn : ∀ k, S k → ¬ A k ∧ k < w1.heap.size ∧ w.heap.size ≤ k) : P.To w A s w3 := by
  obtain ⟨A1, a, b, c⟩ := h
  have no : ∀ k, A1 k → ¬ S k := fun k e hs => by
    obtain ⟨x, y, -⟩ := hn k hs
    exact (c k e).elim x (fun e => by omega)
  have := k0.size
  exact ⟨A1, P.keep a hk no, ((k0.mono (T := A) (fun _ _ e => e.elim)).trans b (fun _ _ e => e)).trans hk (fun k hlt hs => by have := (hn k hs).2.2; omega), fun k e => (c k e).elim .inl (fun e => .inr (by omega))⟩
/-- Turned between changes of blocks of the walk's own. -/
theorem to_mix {σ : Type} {P : Lies σ} {w w3 X V F : World} {A A3 S : Nat → Prop} {s' : σ} (k : Keep A w w3) (f : Foot w A A3) (kX : Keep S w3 X) (h : P.To X A3 s' V) (kF : Keep S V F) (hn : ∀ j, S j → ¬ A3 j ∧ j < w3.heap.size ∧ w.heap.size ≤ j) : P.To w A s' F := by
  obtain ⟨A4, a, b, c⟩ := h
  have z1 := k.size
  have z2 := kX.size
  have no : ∀ j, A4 j → ¬ S j := fun j e hs => by
    obtain ⟨x, y, -⟩ := hn j hs
    exact (c j e).elim x (fun e => by omega)
  exact ⟨A4, P.keep a kF no, ((k.trans kX (fun j hj hs => by have := (hn j hs).2.2; omega)).trans b (fun j hj e => (f j e).elim id (fun e => by omega))).trans kF (fun j hj hs => by have := (hn j hs).2.2; omega), fun j e => (c j e).elim (fun e => f j e) (fun e => .inr (by omega))⟩
/-- What Pick returns. -/
def pkStepV (k : Nat) (pc : Int) (ac tk dn : Bool) : Value := .agg #[.int .i64 k, .int .u8 pc, .bool ac, .bool tk, .bool dn]
set_option maxHeartbeats 4000000 in
theorem rpick_idle (h : RgAt E C w A0 arr ev s) (hA : ∀ k, A k ↔ A0 k ∨ C.Bk k ∨ ev.ownBlock = some k) (hn : n ≤ 6) {p : Int} (b0 : -9223372036854775808 ≤ p) (b1 : p ≤ 9223372036854775807) (hk : k < n) (hp : p % n = k) (h1 : (s.th k).en = none) (h2 : (s.th k).wa = none) (h0 : (s.th k).pc = 0) (hst : s.st < 1000000) :
    Calls Tryz.prog 7 #[pb C.m, .int .i64 p] w fun e w' => e = .returned (.tuple #[pkStepV k 0 false false false, .int .i64 0]) ∧ (RigL E C).To w A ⟨s.l, s.st + 1, s.th, s.x⟩ w' := by
  obtain ⟨W0, hW0⟩ : ∃ W0, W0 = w.alloc (.cells #[.int .i64 0, .int .u8 0, .bool false, .bool false, .bool false] stTy (0, 0)) := ⟨_, rfl⟩
  have k0 : Keep Nil w W0 := by rw [hW0]; exact (Keep.refl _ _).alloc _
  have o0 : W0.heap[w.heap.size]? = some (.cells #[.int .i64 0, .int .u8 0, .bool false, .bool false, .bool false] stTy (0, 0)) := by rw [hW0]; exact heap_alloc_new _ _
  have sz0 : W0.heap.size = w.heap.size + 1 := by rw [hW0]; simp
  obtain ⟨W1, hW1⟩ : ∃ W1, W1 = W0.alloc (.cells #[.int .i64 k, .int .u8 0, .bool false, .bool false, .bool false] stTy (0, 0)) := ⟨_, rfl⟩
  have k1 : Keep Nil W0 W1 := by rw [hW1]; exact (Keep.refl _ _).alloc _
  have o1 : W1.heap[w.heap.size]? = some (.cells #[.int .i64 0, .int .u8 0, .bool false, .bool false, .bool false] stTy (0, 0)) := k1.at o0 (fun e => e)
  have o2 : W1.heap[W0.heap.size]? = some (.cells #[.int .i64 k, .int .u8 0, .bool false, .bool false, .bool false] stTy (0, 0)) := by rw [hW1]; exact heap_alloc_new _ _
  have kk := k0.trans k1 (fun _ _ e => e)
  have HT := hid (@pkthread_ok W0 n p b0 b1 (by omega) hn)
  rw [hp] at HT
  have hlie : (RigL E C).lie w A s := ⟨A0, arr, ev, h, hA⟩
  have nA : ¬ A w.heap.size := fun e => by have := (RigL E C).lt hlie _ e; omega
  obtain ⟨B1, arr1, ev1, g1, gA1⟩ := (RigL E C).keep hlie kk (fun _ _ e => e)
  have HN := hid (rg_next_pc (g1.thAt hk) h1 h2)
  rw [h0] at HN
  have m2' := k0.cell h.hm.cells.2.2.1 (fun e => e)
  have m2'' := kk.cell h.hm.cells.2.2.1 (fun e => e)
  have m4'' := kk.cell h.hm.cells.2.2.2.2.1 (fun e => e)
  have f4 := free_of g1.hm 4
  have nc := h.nc
  have x0 : W1.cell? ⟨w.heap.size, 0, none⟩ = some (.int .i64 0) := by rw [cell_of o1]; rfl
  have x1 : W1.cell? ⟨w.heap.size, 1, none⟩ = some (.int .u8 0) := by rw [cell_of o1]; rfl
  have x2 : W1.cell? ⟨w.heap.size, 2, none⟩ = some (.bool false) := by rw [cell_of o1]; rfl
  have x3 : W1.cell? ⟨w.heap.size, 3, none⟩ = some (.bool false) := by rw [cell_of o1]; rfl
  have x4 : W1.cell? ⟨w.heap.size, 4, none⟩ = some (.bool false) := by rw [cell_of o1]; rfl
  have y0 : W1.cell? ⟨W0.heap.size, 0, none⟩ = some (.int .i64 k) := by rw [cell_of o2]; rfl
  have y1 : W1.cell? ⟨W0.heap.size, 1, none⟩ = some (.int .u8 0) := by rw [cell_of o2]; rfl
  have y2 : W1.cell? ⟨W0.heap.size, 2, none⟩ = some (.bool false) := by rw [cell_of o2]; rfl
  have y3 : W1.cell? ⟨W0.heap.size, 3, none⟩ = some (.bool false) := by rw [cell_of o2]; rfl
  have y4 : W1.cell? ⟨W0.heap.size, 4, none⟩ = some (.bool false) := by rw [cell_of o2]; rfl
  have hmw := lt_of_block h.hm
  have nm0 : ¬ C.m = w.heap.size := by omega
  have nm1 : ¬ C.m = W0.heap.size := by omega
  have nm2 : ¬ w.heap.size = C.m := by omega
  have nm3 : ¬ W0.heap.size = C.m := by omega
  have nn : ¬ w.heap.size = W0.heap.size := by omega
  have nn2 : ¬ W0.heap.size = w.heap.size := by omega
  have fz0 := free_of o1 0
  have fz1 := free_of o1 1
  have fz2 := free_of o1 2
  have fz3 := free_of o1 3
  have fz4 := free_of o1 4
  have ew : IntKind.i64.wrap ((s.st : Int) + 1) = (s.st : Int) + 1 := by rw [IntKind.wrap_i64]; omega
  have KK := hid kk
  have HG1 := hid g1
  have HGA1 := hid gA1
  have NA := hid nA
  have O1 := hid o1
  clear h hA h1 h2 h0 k0 o0 k1 o1 o2 kk g1 gA1 hlie nA hp b0 b1 hmw
  subst hW1
  subst hW0
  simp only [World.size_alloc] at *
  go_enter Tryz.func7, Tryz.ntmps7
  go_wp2_with fail
  refine HT.out.mono ?_
  rintro e w' ⟨rfl, rfl⟩
  go_wp2_with fail
  refine HN.out.mono ?_
  rintro e w' ⟨rfl, rfl⟩
  generalize hW1 : (w.alloc (.cells #[.int .i64 0, .int .u8 0, .bool false, .bool false, .bool false] stTy (0, 0))).alloc (.cells #[.int .i64 k, .int .u8 0, .bool false, .bool false, .bool false] stTy (0, 0)) = W1 at *
  clear HN HT m2'
  go_wp2
  obtain ⟨V, hV⟩ : ∃ V, V = W1.setCell ⟨C.m, 4, none⟩ (.int .i64 ((s.st : Int) + 1)) := ⟨_, rfl⟩
  rw [← hV]
  have oV : V.heap[w.heap.size]? = some (.cells #[.int .i64 0, .int .u8 0, .bool false, .bool false, .bool false] stTy (0, 0)) := by rw [hV]; exact set_other O1.out nm2 _
  obtain ⟨hh, hk5⟩ := put5 oV (.int .i64 k) (.int .u8 0) (.bool false) (.bool false) (.bool false)
  refine bodyPost_ret (results_cell_row2 rfl _ _ w.heap.size _ _ (0, 0) _ rfl hh Tryz.underlying31 rfl pkSizeStep) rfl ⟨rfl, ?_⟩
  refine to_after KK.out (HG1.out.step_to HGA1.out (st' := s.st + 1) (W := V) (by rw [hV]; rfl)) hk5 (fun j e => ?_)
  subst e
  exact ⟨NA.out, lt_of_block O1.out, Nat.le_refl _⟩
/-- What stands behind a pick that made a step. -/
def PkAf (bnd : Int → Nat) (k : Nat) (s1 : RgS) (d : Bool) (s2 : RgS) : Prop :=
  (d = false ∧ s2 = ⟨s1.l, s1.st + 1, s1.th, s1.x⟩) ∨
  (d = true ∧ ∃ x' t', BegTo bnd s1.x k x' ∧ TOk t' x' k ∧ t'.ov = (s1.th k).ov ∧ t'.ops = (s1.th k).ops ∧ t'.idx = (s1.th k).idx + 1 ∧ s2 = ⟨s1.l, s1.st + 1, upd s1.th k t', x'⟩)
/-- Behind a pick. -/
def PkTo (E : PrW n) (C : RgC) (w : World) (A : Nat → Prop) (k : Nat) (Q : Int → Bool → RgS → Prop) (e : Ending) (w' : World) : Prop :=
  ∃ pc ac tk d s1 s2, e = .returned (.tuple #[pkStepV k pc ac tk d, .int .i64 0]) ∧ pc ≠ 0 ∧ Q pc d s1 ∧ PkAf E.bnd k s1 d s2 ∧ (RigL E C).To w A s2 w'
set_option maxHeartbeats 8000000 in
theorem rpick_go (h : RgAt E C w A0 arr ev s) (hA : ∀ k, A k ↔ A0 k ∨ C.Bk k ∨ ev.ownBlock = some k) (hn : n ≤ 6) {p : Int} (b0 : -9223372036854775808 ≤ p) (b1 : p ≤ 9223372036854775807) (hk : k < n) (hp : p % n = k) (hst : s.st < 1000000) {Q : Int → Bool → RgS → Prop}
    (hnx : ∀ W B arr ev, RgAt E C W B arr ev s → Calls Tryz.prog 15 #[.pointer (some ⟨C.tb, k * 8, none⟩)] W fun e w' => ∃ pc, e = .returned (.int .u8 pc) ∧ pc ≠ 0 ∧ Keep Nil W w')
    (hstep : ∀ W B arr ev, RgAt E C W B arr ev s → (∀ k, A k ↔ B k ∨ C.Bk k ∨ ev.ownBlock = some k) → Calls Tryz.prog 16 #[pb C.m, .int .i64 k] W fun e w' => ∃ pc d s1, e = .returned (.tuple #[.int .u8 pc, .bool d]) ∧ pc ≠ 0 ∧ Q pc d s1 ∧ (RigL E C).To W A s1 w')
    (hQ : ∀ pc d s1, Q pc d s1 → s1.st = s.st ∧ (d = true → TIdle { s1.th k with idx := (s1.th k).idx + 1 } s1.x k ∧ OpsWf (s1.th k).ops ∧ s1.x.K ≤ 900 ∧ (s1.th k).idx ≤ 10000)) :
    Calls Tryz.prog 7 #[pb C.m, .int .i64 p] w (PkTo E C w A k Q) := by
  obtain ⟨W0, hW0⟩ : ∃ W0, W0 = w.alloc (.cells #[.int .i64 0, .int .u8 0, .bool false, .bool false, .bool false] stTy (0, 0)) := ⟨_, rfl⟩
  have k0 : Keep Nil w W0 := by rw [hW0]; exact (Keep.refl _ _).alloc _
  have o0 : W0.heap[w.heap.size]? = some (.cells #[.int .i64 0, .int .u8 0, .bool false, .bool false, .bool false] stTy (0, 0)) := by rw [hW0]; exact heap_alloc_new _ _
  have sz0 : W0.heap.size = w.heap.size + 1 := by rw [hW0]; simp
  obtain ⟨W1, hW1⟩ : ∃ W1, W1 = W0.alloc (.cells #[.int .i64 k, .int .u8 0, .bool false, .bool false, .bool false] stTy (0, 0)) := ⟨_, rfl⟩
  have k1 : Keep Nil W0 W1 := by rw [hW1]; exact (Keep.refl _ _).alloc _
  have o1 : W1.heap[w.heap.size]? = some (.cells #[.int .i64 0, .int .u8 0, .bool false, .bool false, .bool false] stTy (0, 0)) := k1.at o0 (fun e => e)
  have o2 : W1.heap[W0.heap.size]? = some (.cells #[.int .i64 k, .int .u8 0, .bool false, .bool false, .bool false] stTy (0, 0)) := by rw [hW1]; exact heap_alloc_new _ _
  have kk := k0.trans k1 (fun _ _ e => e)
  have HT := hid (@pkthread_ok W0 n p b0 b1 (by omega) hn)
  rw [hp] at HT
  have hlie : (RigL E C).lie w A s := ⟨A0, arr, ev, h, hA⟩
  have nA : ¬ A w.heap.size := fun e => by have := (RigL E C).lt hlie _ e; omega
  obtain ⟨B1, arr1, ev1, g1, gA1⟩ := (RigL E C).keep hlie kk (fun _ _ e => e)
  have HN := hid (hnx W1 B1 arr1 ev1 g1)
  have HS := hid hstep
  have HQ := hid hQ
  have m2' := k0.cell h.hm.cells.2.2.1 (fun e => e)
  have m2'' := kk.cell h.hm.cells.2.2.1 (fun e => e)
  have nc := h.nc
  have hmw := lt_of_block h.hm
  have htw := lt_of_block h.hb
  have KK := hid kk
  have HG1 := hid g1
  have HGA1 := hid gA1
  have NA := hid nA
  have nA2 : ¬ A W0.heap.size := fun e => by have := (RigL E C).lt hlie _ e; omega
  have NA2 := hid nA2
  have O1 := hid o1
  have O2 := hid o2
  have nb1 : w.heap.size ≠ W0.heap.size := by omega
  have nb2 : w.heap.size ≠ C.m := by omega
  have nb3 : W0.heap.size ≠ C.m := by omega
  have nb4 : w.heap.size ≠ C.tb := by omega
  have nb5 : W0.heap.size ≠ C.tb := by omega
  have NB := hid (And.intro nb1 (And.intro nb2 (And.intro nb3 (And.intro nb4 nb5))))
  have SZ := hid (show w.heap.size ≤ W0.heap.size by omega)
  clear h hA k0 o0 k1 o1 o2 kk g1 gA1 hlie nA nA2 hp b0 b1 hmw htw hnx hstep hQ nb1 nb2 nb3 nb4 nb5
  subst hW1
  subst hW0
  simp only [World.size_alloc] at *
  go_enter Tryz.func7, Tryz.ntmps7
  go_wp2_with fail
  refine HT.out.mono ?_
  rintro e w' ⟨rfl, rfl⟩
  go_wp2_with fail
  refine HN.out.mono ?_
  rintro e w2 ⟨pc0, rfl, p00, k2⟩
  generalize hW1 : (w.alloc (.cells #[.int .i64 0, .int .u8 0, .bool false, .bool false, .bool false] stTy (0, 0))).alloc (.cells #[.int .i64 k, .int .u8 0, .bool false, .bool false, .bool false] stTy (0, 0)) = W1 at *
  have dp0 : (pc0 != 0) = true := by simp [p00]
  have HS2 := hid (HS.out w2 _ _ _ (RgAt.quiet HG1.out k2) HGA1.out)
  have K2 := hid (KK.out.trans k2 (fun _ _ e => e))
  have o1' := k2.at O1.out (fun e => e)
  have o2' := k2.at O2.out (fun e => e)
  generalize hsb : w.heap.size + 1 = sb at *
  have SB := hid (show w.heap.size ≤ sb by omega)
  clear hsb
  have O1' := hid o1'
  have O2' := hid o2'
  have m2w := k2.cell m2'' (fun e => e)
  clear HN HT m2' m2'' HS HG1 HGA1 KK hW1 O1 O2 o1' o2' k2
  go_wp2_with fail
  refine HS2.out.mono ?_
  rintro e w3 ⟨pc, d, s1, rfl, p0, hq, A3, ⟨B3, arr3, ev3, g3, gA3⟩, k3, f3⟩
  obtain ⟨b12, b1m, b2m, b1t, b2t⟩ := NB.out
  have l1 := lt_of_block O1'.out
  have l2 := lt_of_block O2'.out
  have o1 := k3.at O1'.out NA.out
  have o2 := k3.at O2'.out NA2.out
  have n1 : ¬ A3 w.heap.size := fun e => (f3 _ e).elim NA.out (fun e => by omega)
  have n2 : ¬ A3 sb := fun e => (f3 _ e).elim NA2.out (fun e => by omega)
  have e1 : ¬ C.m = w.heap.size := fun e => b1m e.symm
  have e2 : ¬ C.m = sb := fun e => b2m e.symm
  have e3 : ¬ C.tb = sb := fun e => b2t e.symm
  have e4 : ¬ C.tb = w.heap.size := fun e => b1t e.symm
  have e5 : ¬ sb = w.heap.size := fun e => b12 e.symm
  rename_i K2' hK2' K1' hK1' K0' hK0'
  have HKK := hid hK2'
  clear hK2'
  have m2w' := g3.hm.cells.2.2.1
  have y0 : w3.cell? ⟨sb, 0, none⟩ = some (.int .i64 k) := by rw [cell_of o2]; rfl
  have y1 : w3.cell? ⟨sb, 1, none⟩ = some (.int .u8 0) := by rw [cell_of o2]; rfl
  have y2 : w3.cell? ⟨sb, 2, none⟩ = some (.bool false) := by rw [cell_of o2]; rfl
  have y3 : w3.cell? ⟨sb, 3, none⟩ = some (.bool false) := by rw [cell_of o2]; rfl
  have y4 : w3.cell? ⟨sb, 4, none⟩ = some (.bool false) := by rw [cell_of o2]; rfl
  have fs1 := free_of o2 1
  have fs2 := free_of o2 2
  have fs3 := free_of o2 3
  have fs4 := free_of o2 4
  obtain ⟨hs1, hq1⟩ := HQ.out pc d s1 hq
  have HK3 := hid k3
  have HF3 := hid f3
  have G3 := hid g3
  have GA3 := hid gA3
  have P1 := hid o1
  have P2 := hid o2
  have N1 := hid n1
  have N2 := hid n2
  have L1 := hid l1
  have L2 := hid l2
  have HQ1 := hid hq
  have HS1 := hid hs1
  have E12 := hid b12
  clear HS2 k3 f3 g3 gA3 o1 o2 n1 n2 l1 l2 HQ hq m2w hs1 b12 e5
  generalize hdp : (pc != 1) = ac at *
  cases d with
  | false =>
    clear hq1 m2w' e3 e4 e1 b1m b2m b1t b2t
    go_wp2
    obtain ⟨X, hX⟩ : ∃ X, X = (((w3.setCell ⟨sb, 1, none⟩ (.int .u8 pc)).setCell ⟨sb, 4, none⟩ (.bool false)).setCell ⟨sb, 3, none⟩ (.bool false)).setCell ⟨sb, 2, none⟩ (.bool ac) := ⟨_, rfl⟩
    have kX : Keep (fun k => k = sb) w3 X := by rw [hX]; exact Keep.setCell (S := fun k => k = sb) (Keep.setCell (S := fun k => k = sb) (Keep.setCell (S := fun k => k = sb) (Keep.setCell (S := fun k => k = sb) (Keep.refl _ _) (.inl rfl) _) (.inl rfl) _) (.inl rfl) _) (.inl rfl) _
    have oX : X.heap[sb]? = some (.cells #[.int .i64 k, .int .u8 pc, .bool ac, .bool false, .bool false] stTy (0, 0)) := by rw [hX]; exact set_same (set_same (set_same (set_same P2.out _) _) _) _
    rw [← hX]
    clear hX y0 y1 y2 y3 y4 fs1 fs2 fs3 fs4
    have oR := kX.at P1.out (fun e => E12.out e)
    obtain ⟨B4, arr4, ev4, g4, gA4⟩ := (RigL E C).keep ⟨B3, arr3, ev3, G3.out, GA3.out⟩ kX (fun j hj e => N2.out (e ▸ hj))
    have KWX := hid (((K2.out.mono (T := A) (fun _ _ e => e.elim)).trans HK3.out (fun _ _ e => e)).trans kX (fun j hj e => by have := SB.out; omega))
    have FWX := hid (show Foot w A A3 from fun j hj => (HF3.out j hj).elim .inl (fun e => .inr (Nat.le_trans K2.out.size e)))
    have NX1 := hid N1.out
    clear kX
    refine HKK.out _ _ ?_
    have bb := NB.out
    obtain ⟨b12, b1m, b2m, -⟩ := bb
    have e1 : ¬ C.m = w.heap.size := fun e => b1m e.symm
    have e2 : ¬ C.m = sb := fun e => b2m e.symm
    have e5 : ¬ sb = w.heap.size := fun e => b12 e.symm
    have m4w := g4.hm.cells.2.2.2.2.1
    have fm4 := free_of g4.hm 4
    have y0 : X.cell? ⟨sb, 0, none⟩ = some (.int .i64 k) := by rw [cell_of oX]; rfl
    have y1 : X.cell? ⟨sb, 1, none⟩ = some (.int .u8 pc) := by rw [cell_of oX]; rfl
    have y2 : X.cell? ⟨sb, 2, none⟩ = some (.bool ac) := by rw [cell_of oX]; rfl
    have y3 : X.cell? ⟨sb, 3, none⟩ = some (.bool false) := by rw [cell_of oX]; rfl
    have y4 : X.cell? ⟨sb, 4, none⟩ = some (.bool false) := by rw [cell_of oX]; rfl
    have x0 : X.cell? ⟨w.heap.size, 0, none⟩ = some (.int .i64 0) := by rw [cell_of oR]; rfl
    have x1 : X.cell? ⟨w.heap.size, 1, none⟩ = some (.int .u8 0) := by rw [cell_of oR]; rfl
    have x2 : X.cell? ⟨w.heap.size, 2, none⟩ = some (.bool false) := by rw [cell_of oR]; rfl
    have x3 : X.cell? ⟨w.heap.size, 3, none⟩ = some (.bool false) := by rw [cell_of oR]; rfl
    have x4 : X.cell? ⟨w.heap.size, 4, none⟩ = some (.bool false) := by rw [cell_of oR]; rfl
    have fr0 := free_of oR 0
    have fr1 := free_of oR 1
    have fr2 := free_of oR 2
    have fr3 := free_of oR 3
    have fr4 := free_of oR 4
    have hstn : s1.st = s.st := HS1.out
    rw [show (RgS.st _ : Nat) = s.st from hstn] at m4w
    have ew : IntKind.i64.wrap ((s.st : Int) + 1) = (s.st : Int) + 1 := by rw [IntKind.wrap_i64]; omega
    have G4 := hid g4
    have GA4 := hid gA4
    have OR := hid oR
    have LS := hid (lt_of_block oX)
    clear g4 gA4 oR oX hstn hdp
    go_wp2
    obtain ⟨V, hV⟩ : ∃ V, V = X.setCell ⟨C.m, 4, none⟩ (.int .i64 ((s.st : Int) + 1)) := ⟨_, rfl⟩
    rw [← hV]
    have oV : V.heap[w.heap.size]? = some (.cells #[.int .i64 0, .int .u8 0, .bool false, .bool false, .bool false] stTy (0, 0)) := by rw [hV]; exact set_other OR.out (fun e => b1m e) _
    obtain ⟨hh, hk5⟩ := put5 oV (.int .i64 k) (.int .u8 pc) (.bool ac) (.bool false) (.bool false)
    refine bodyPost_ret (results_cell_row2 rfl _ _ w.heap.size _ _ (0, 0) _ rfl hh Tryz.underlying31 rfl pkSizeStep) rfl ⟨pc, ac, false, false, s1, _, rfl, p0, HQ1.out, .inl ⟨rfl, rfl⟩, ?_⟩
    refine to_mix (S := fun j => j = w.heap.size) KWX.out FWX.out (Keep.refl _ _) (G4.out.step_to GA4.out (st' := s1.st + 1) (W := V) (by rw [hV, HS1.out]; rfl)) hk5 (fun j e => ?_)
    subst e
    exact ⟨NX1.out, lt_of_block OR.out, Nat.le_refl _⟩
  | true =>
    obtain ⟨hq2, hq3, hq4, hq5⟩ := hq1 rfl
    obtain ⟨X0, hX0⟩ : ∃ X, X = (((w3.setCell ⟨sb, 1, none⟩ (.int .u8 pc)).setCell ⟨sb, 4, none⟩ (.bool true)).setCell ⟨sb, 3, none⟩ (.bool true)).setCell ⟨sb, 2, none⟩ (.bool ac) := ⟨_, rfl⟩
    have kX0 : Keep (fun k => k = sb) w3 X0 := by rw [hX0]; exact Keep.setCell (S := fun k => k = sb) (Keep.setCell (S := fun k => k = sb) (Keep.setCell (S := fun k => k = sb) (Keep.setCell (S := fun k => k = sb) (Keep.refl _ _) (.inl rfl) _) (.inl rfl) _) (.inl rfl) _) (.inl rfl) _
    have oX0 : X0.heap[sb]? = some (.cells #[.int .i64 k, .int .u8 pc, .bool ac, .bool true, .bool true] stTy (0, 0)) := by rw [hX0]; exact set_same (set_same (set_same (set_same P2.out _) _) _) _
    have oR0 := kX0.at P1.out (fun e => E12.out e)
    obtain ⟨B4, arr4, ev4, g4, gA4⟩ := (RigL E C).keep ⟨B3, arr3, ev3, G3.out, GA3.out⟩ kX0 (fun j hj e => N2.out (e ▸ hj))
    have c1w := (G3.out.thAt hk).cell 1 rfl
    have f1w := (G3.out.thAt hk).free (k * 8 + 1)
    have ewi : IntKind.i64.wrap (((s1.th k).idx : Int) + 1) = ((s1.th k).idx : Int) + 1 := by rw [IntKind.wrap_i64]; omega
    obtain ⟨A5, ⟨B5, arr5, ev5, g5, gA5⟩, k5, f5⟩ := g4.put_to gA4 hk (j := 1) (t' := { s1.th k with idx := (s1.th k).idx + 1 }) (u := .int .i64 (((s1.th k).idx : Int) + 1)) (by omega) rfl rfl rfl
    have HB := hid (rbeginL g5 gA5 hk hq4 (by show TIdle (upd s1.th k _ k) _ _; rw [upd_self]; exact hq2) (by show OpsWf (upd s1.th k _ k).ops; rw [upd_self]; exact hq3))
    have KX0 := hid kX0
    have OX0 := hid oX0
    have OR0 := hid oR0
    have HK5 := hid k5
    have HF5 := hid f5
    clear g4 gA4 g5 gA5 k5 f5 kX0 oX0 oR0 hq1 hq2 hq3
    subst hX0
    go_wp2_with fail
    refine HB.out.mono ?_
    rintro e X ⟨rfl, x', t', bg1, bg2, bg3, bg4, bg5, A6, ⟨B6, arr6, ev4, g4, gA4⟩, k6, f6⟩
    have z3 := HK3.out.size
    have z4 := KX0.out.size
    have z5 := HK5.out.size
    have n15 : ¬ A5 w.heap.size := fun e => (HF5.out _ e).elim N1.out (fun e => by have := L1.out; omega)
    have n25 : ¬ A5 sb := fun e => (HF5.out _ e).elim N2.out (fun e => by have := L2.out; omega)
    have oX := k6.at (HK5.out.at OX0.out N2.out) n25
    have oR := k6.at (HK5.out.at OR0.out N1.out) n15
    have NX1 := hid (show ¬ A6 w.heap.size from fun e => (f6 _ e).elim n15 (fun e => by have := L1.out; omega))
    have FWX := hid (show Foot w A A6 from fun j hj => (f6 j hj).elim (fun e => (HF5.out j e).elim (fun e => (HF3.out j e).elim .inl (fun e => .inr (Nat.le_trans K2.out.size e))) (fun e => .inr (by have := K2.out.size; omega))) (fun e => .inr (by have := K2.out.size; omega)))
    have KWX := hid (((((K2.out.mono (T := A) (fun _ _ e => e.elim)).trans HK3.out (fun _ _ e => e)).trans KX0.out (fun j hj e => by have := SB.out; omega)).trans HK5.out (fun j hj e => (HF3.out j e).elim id (fun e => by have := K2.out.size; omega))).trans k6 (fun j hj e => (HF5.out j e).elim (fun e => (HF3.out j e).elim id (fun e => by have := K2.out.size; omega)) (fun e => by have := K2.out.size; omega)))
    rw [show upd (RgS.mk s1.l s1.st (upd s1.th k { s1.th k with idx := (s1.th k).idx + 1 }) s1.x).th k t' = upd s1.th k t' from upd_upd _ _ _ _] at g4
    have hov : t'.ov = (s1.th k).ov := by rw [bg3]; show (upd s1.th k _ k).ov = _; rw [upd_self]
    have hop : t'.ops = (s1.th k).ops := by rw [bg4]; show (upd s1.th k _ k).ops = _; rw [upd_self]
    have hix : t'.idx = (s1.th k).idx + 1 := by rw [bg5]; show (upd s1.th k _ k).idx = _; rw [upd_self]
    have AF := hid (show PkAf E.bnd k s1 true ⟨s1.l, s1.st + 1, upd s1.th k t', x'⟩ from .inr ⟨rfl, x', t', bg1, bg2, hov, hop, hix, rfl⟩)
    clear HB k6 f6 bg1 bg2 bg3 bg4 bg5 hov hop hix y0 y1 y2 y3 y4 fs1 fs2 fs3 fs4 c1w f1w ewi m2w' e1 e2 e3 e4 b1m b2m b1t b2t n15 n25 z3 z4 z5 hq4 hq5
    go_wp2
    refine HKK.out _ _ ?_
    have bb := NB.out
    obtain ⟨b12, b1m, b2m, -⟩ := bb
    have e1 : ¬ C.m = w.heap.size := fun e => b1m e.symm
    have e2 : ¬ C.m = sb := fun e => b2m e.symm
    have e5 : ¬ sb = w.heap.size := fun e => b12 e.symm
    have m4w := g4.hm.cells.2.2.2.2.1
    have fm4 := free_of g4.hm 4
    have y0 : X.cell? ⟨sb, 0, none⟩ = some (.int .i64 k) := by rw [cell_of oX]; rfl
    have y1 : X.cell? ⟨sb, 1, none⟩ = some (.int .u8 pc) := by rw [cell_of oX]; rfl
    have y2 : X.cell? ⟨sb, 2, none⟩ = some (.bool ac) := by rw [cell_of oX]; rfl
    have y3 : X.cell? ⟨sb, 3, none⟩ = some (.bool true) := by rw [cell_of oX]; rfl
    have y4 : X.cell? ⟨sb, 4, none⟩ = some (.bool true) := by rw [cell_of oX]; rfl
    have x0 : X.cell? ⟨w.heap.size, 0, none⟩ = some (.int .i64 0) := by rw [cell_of oR]; rfl
    have x1 : X.cell? ⟨w.heap.size, 1, none⟩ = some (.int .u8 0) := by rw [cell_of oR]; rfl
    have x2 : X.cell? ⟨w.heap.size, 2, none⟩ = some (.bool false) := by rw [cell_of oR]; rfl
    have x3 : X.cell? ⟨w.heap.size, 3, none⟩ = some (.bool false) := by rw [cell_of oR]; rfl
    have x4 : X.cell? ⟨w.heap.size, 4, none⟩ = some (.bool false) := by rw [cell_of oR]; rfl
    have fr0 := free_of oR 0
    have fr1 := free_of oR 1
    have fr2 := free_of oR 2
    have fr3 := free_of oR 3
    have fr4 := free_of oR 4
    have hstn : s1.st = s.st := HS1.out
    rw [show (RgS.st _ : Nat) = s.st from hstn] at m4w
    have ew : IntKind.i64.wrap ((s.st : Int) + 1) = (s.st : Int) + 1 := by rw [IntKind.wrap_i64]; omega
    have G4 := hid g4
    have GA4 := hid gA4
    have OR := hid oR
    have LS := hid (lt_of_block oX)
    clear g4 gA4 oR oX hstn hdp
    go_wp2
    obtain ⟨V, hV⟩ : ∃ V, V = X.setCell ⟨C.m, 4, none⟩ (.int .i64 ((s.st : Int) + 1)) := ⟨_, rfl⟩
    rw [← hV]
    have oV : V.heap[w.heap.size]? = some (.cells #[.int .i64 0, .int .u8 0, .bool false, .bool false, .bool false] stTy (0, 0)) := by rw [hV]; exact set_other OR.out (fun e => b1m e) _
    obtain ⟨hh, hk5⟩ := put5 oV (.int .i64 k) (.int .u8 pc) (.bool ac) (.bool true) (.bool true)
    refine bodyPost_ret (results_cell_row2 rfl _ _ w.heap.size _ _ (0, 0) _ rfl hh Tryz.underlying31 rfl pkSizeStep) rfl ⟨pc, ac, true, true, s1, _, rfl, p0, HQ1.out, AF.out, ?_⟩
    refine to_mix (S := fun j => j = w.heap.size) KWX.out FWX.out (Keep.refl _ _) (G4.out.step_to GA4.out (st' := s1.st + 1) (W := V) (by rw [hV, HS1.out]; rfl)) hk5 (fun j e => ?_)
    subst e
    exact ⟨NX1.out, lt_of_block OR.out, Nat.le_refl _⟩
end
end Go.Proofs.YtldjlcdccnnogaaGreat
