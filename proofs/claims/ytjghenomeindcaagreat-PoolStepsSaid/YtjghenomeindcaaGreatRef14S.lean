/- leapfrogref14: a step of an operation. -/
import Derived.Test.YtjghenomeindcaaGreatRef14
import Derived.Deep.RegionHeld3
import Derived.StillTailTactics
import Derived.BigRegion
set_option linter.unusedVariables false
set_option linter.unusedSimpArgs false
namespace Go.Lf
/-- What a step of the reference needs. -/
structure RGo (c : Cfg) (s : PSt) (o : PO) (x : Int) : Prop where
  t0 : 0 ≤ o.th
  t1 : o.th < 64
  h1 : 1 ≤ o.ht
  h6 : o.ht ≤ 6
  lg : s.log.length < 1000000000
  pc : o.pc = 4 ∨ (o.gv = false ∧ (o.pc = 5 ∨ o.pc = 6)) ∨ (o.gv = true ∧ (o.pc = 7 ∨ o.pc = 8))
  g4 : o.pc = 4 → 0 ≤ x ∧ x < 18446744073709551616
  g5 : o.pc = 5 → 0 ≤ x ∧ x ≤ 1024
  tk : o.gv = false → o.pc ≠ 4 → 1 ≤ o.tw ∧ o.tw ≤ c.nT ∧ o.tw = o.w % 65536
  gv : o.gv = true → 1 ≤ o.tw ∧ o.tw ≤ c.nT
  gw : o.pc ≠ 4 → 0 ≤ o.w ∧ o.w / 65536 < 1099511627775
  g6 : o.pc = 6 → 0 ≤ o.bl ∧ o.bl ≤ 1024 ∧ 0 ≤ o.fl ∧ o.fl < 1000000000
  g8 : o.pc = 8 → s.out o.tw = some true ∧ ∃ g, s.gens[o.tw.toNat - 1]? = some g ∧ 0 ≤ g ∧ g < 1000000000
  o6 : o.pc = 6 → s.out o.tw ≠ some true ∨ x ≠ o.w
end Go.Lf
namespace Go.Proofs.YtjghenomeindcaaGreat
open Go.RowKit Go.Lf
/-- A step of an operation of the reference. -/
def R14To (w : World) (A : Nat → Prop) (c : Cfg) (pb mb l rb : Nat) (s' : PSt) (o' : PO) (pc : Int) (e : Ending) (w' : World) : Prop :=
  e = .returned (.tuple #[.int .u8 pc, .bool (o'.pc == 0)]) ∧ ∃ A', (RPoolL c pb mb l).lie w' A' s' ∧ RRunAt w' rb pb o' ∧ Keep (fun k => A k ∨ k = rb) w w' ∧ Foot w A A'
/-- The pools have turned; the operation has not. -/
structure KQ (w : World) (A : Nat → Prop) (c : Cfg) (pb mb l tb vb gb rb : Nat) (G : Nat → Prop) (s' : PSt) (o : PO) (w1 : World) (A1 F1 : Nat → Prop) : Prop where
  pa : RPA w1 A1 c pb mb l tb vb gb F1 G s'
  at_ : RRunAt w1 rb pb o
  nA : ¬ A1 rb
  keep : Keep A w w1
  foot : Foot w A A1
section
variable {w w1 w2 w' : World} {A A1 F1 : Nat → Prop} {c : Cfg} {pb mb l tb vb gb rb : Nat} {F G : Nat → Prop} {s s' : PSt} {ws' : List Int} {log' : List Acc} {o o' : PO} {x : Int}
theorem KQ.of (h : RPA w A c pb mb l tb vb gb F G s) (ho : RRunAt w rb pb o) (nA : ¬ A rb) (hto : RefTo w mb F ws' log' w1) : ∃ A1 F1, KQ w A c pb mb l tb vb gb rb G { s with ws := ws', log := log' } o w1 A1 F1 := by
  obtain ⟨A1, F1, h1, h2, h3⟩ := h.turn hto
  have hz := lt_of_block ho
  have hFA : ∀ k, F k → A k := fun k hF => (h.foot k).2 (.inr (.inr (.inr (.inr (.inl hF)))))
  exact ⟨A1, F1, h1, h2.at ho (fun e => nA (hFA _ e)), fun e => (h3 rb e).elim nA (fun e => by omega), h2.mono (fun k _ e => hFA k e), h3⟩
theorem KQ.done {pc : Int} (h : KQ w A c pb mb l tb vb gb rb G s' o w1 A1 F1) (hr : RRunAt w2 rb pb o') (hk : Keep (fun k => k = rb) w1 w2) : R14To w A c pb mb l rb s' o' pc (.returned (.tuple #[.int .u8 pc, .bool (o'.pc == 0)])) w2 :=
  ⟨rfl, A1, ⟨tb, vb, gb, F1, G, h.pa.keep hk (fun k hk1 e => h.nA (by have e2 : k = rb := e; rw [← e2]; exact hk1))⟩, hr, (h.keep.mono (T := fun k => A k ∨ k = rb) (fun _ _ h => .inl h)).trans (hk.mono (T := fun k => A k ∨ k = rb) (fun _ _ h => .inr h)) (fun _ _ h => h), h.foot⟩
theorem R14To.pre {pc : Int} {e : Ending} (hk : Keep Nil w w1) (h : R14To w1 A c pb mb l rb s' o' pc e w2) : R14To w A c pb mb l rb s' o' pc e w2 := by
  obtain ⟨h1, B', h2, h3, h4, h5⟩ := h
  exact ⟨h1, B', h2, h3, (hk.mono (T := fun k => A k ∨ k = rb) (fun _ _ h => h.elim)).trans h4 (fun _ _ h => h), fun k e => (h5 k e).imp id (fun e => by have := hk.size; omega)⟩
theorem kone14 {w : World} {o i : Nat} {v : Value} : Keep (fun k => k = o) w (w.setCell ⟨o, i, none⟩ v) := (Keep.refl (fun k => k = o) w).setCell (p := ⟨o, i, none⟩) (.inl rfl) _
set_option maxRecDepth 100000 in
set_option maxHeartbeats 1000000 in
theorem r14idle (h : RRunAt w rb pb o) (hp : o.pc = 0) : Calls Tryz.prog 91 #[.pointer (some ⟨rb, 0, none⟩)] w fun e w' => e = .returned (.tuple #[.int .u8 0, .bool false]) ∧ w = w' := by
  have c5 : w.cell? ⟨rb, 5, none⟩ = some (.int .u8 0) := by rw [cell_of h, ← hp]; rfl
  have z := lt_of_block h
  clear h hp
  go_enter Tryz.func91, Tryz.ntmps91
  go_wp2
  go_ret2
  exact ⟨rfl, rfl⟩
set_option maxRecDepth 100000 in
set_option maxHeartbeats 8000000 in
theorem r14step_4 (h : RPA w A c pb mb l tb vb gb F G s) (ho : RRunAt w rb pb o) (nA : ¬ A rb) (hok : c.ok) (hg : RGo c s o x) (hp : o.pc = 4) (hx : s.ws[o.at c]? = some x) : Calls Tryz.prog 91 #[.pointer (some ⟨rb, 0, none⟩)] w (R14To w A c pb mb l rb (o.st c s x) (o.op x) o.pc) := by
  obtain ⟨S', hS⟩ : ∃ S', S' = o.st c s x := ⟨_, rfl⟩
  obtain ⟨O', hO⟩ : ∃ O', O' = o.op x := ⟨_, rfl⟩
  rw [← hS, ← hO, hp]
  have HS := hid hS
  have HO := hid hO
  have H := hid h
  have HR := hid ho
  have HG := hid hg
  have HA := hid nA
  have d0 : (o.pc == 0) = false := beq_eq_false_iff_ne.2 (by omega)
  have r0 : w.cell? ⟨rb, 0, none⟩ = some (.pointer (some ⟨pb, 0, none⟩)) := by rw [cell_of ho]; rfl
  have r1 : w.cell? ⟨rb, 1, none⟩ = some (.int .i64 o.th) := by rw [cell_of ho]; rfl
  have r2 : w.cell? ⟨rb, 2, none⟩ = some (.int .i64 (o.ht : Int)) := by rw [cell_of ho]; rfl
  have r5 : w.cell? ⟨rb, 5, none⟩ = some (.int .u8 4) := by rw [cell_of ho, ← hp]; rfl
  have r6 : w.cell? ⟨rb, 6, none⟩ = some (.int .u64 o.w) := by rw [cell_of ho]; rfl
  have rz := lt_of_block ho
  obtain ⟨p0, p1, p2, p3, p4, pz⟩ := h.cells
  have hl : RLC w l c := h.lay.1
  have l21 := hl.c21
  have l22 := hl.c22
  have lz := hl.lt
  have ht6 := hg.h6
  have ht1 := hg.h1
  have hat : o.at c = c.pools + o.ht - 1 := by unfold PO.at; rw [if_neg (by omega)]
  have hpl : c.pools ≤ 65536 := by have := rl_words hok; obtain ⟨a1, a2, a3, a4, a5, a6, a7, a8, a9⟩ := plc_lt c; omega
  have hlk : c.links ≤ 65536 := by have := rl_words hok; obtain ⟨a1, a2, a3, a4, a5, a6, a7, a8, a9⟩ := plc_lt c; omega
  have w1' : IntKind.i64.wrap ((c.pools : Int) + (o.ht : Int)) = (c.pools : Int) + (o.ht : Int) := by rw [IntKind.wrap_i64]; omega
  have w2' : IntKind.i64.wrap ((c.pools : Int) + (o.ht : Int) - 1) = (c.pools : Int) + (o.ht : Int) - 1 := by rw [IntKind.wrap_i64]; omega
  have w3' : IntKind.i64.wrap ((c.links : Int) - 1) = (c.links : Int) - 1 := by rw [IntKind.wrap_i64]; omega
  have HX := hid (show s.ws[((c.pools : Int) + (o.ht : Int) - 1).toNat]? = some x from by rw [show ((c.pools : Int) + (o.ht : Int) - 1).toNat = c.pools + o.ht - 1 by omega, ← hat]; exact hx)
  have HX0 := hid (show 0 ≤ (c.pools : Int) + (o.ht : Int) - 1 by omega)
  have HAT := hid (show ((o.at c : Nat) : Int) = (c.pools : Int) + (o.ht : Int) - 1 by rw [hat]; omega)
  have HSE := hid (show S' = { s with log := s.log ++ [⟨o.th, (c.pools : Int) + (o.ht : Int) - 1, 1, x, x, false⟩] } from by rw [HS.out]; unfold PO.st; rw [if_pos (.inl hp), HAT.out])
  have HP4 := hid hp
  clear h ho nA hg hl hat hpl hlk hx hS hO hp ht6 ht1
  go_enter Tryz.func91, Tryz.ntmps91
  go_wp2
  go_quiet (fail)
  obtain ⟨W, hW⟩ : ∃ W, W = w.drewN nq := ⟨_, rfl⟩
  rw [← hW]
  have HK := hid (show Keep Nil w W from hW ▸ (Keep.refl Nil w).drewN _)
  have HQ := hid (H.out.quiet HK.out)
  have HRQ := hid (show RRunAt W rb pb o from HK.out.at HR.out (fun h => h))
  have r1 := HK.out.cell r1 (fun h => h)
  have r6 := HK.out.cell r6 (fun h => h)
  have rz : rb < W.heap.size := by have := HK.out.size; omega
  clear hW r0 r2 r5 p0 p1 p2 p3 p4 pz l21 l22 lz
  go_wp2_with fail
  refine (r1towerG o.w).mono ?_
  rintro e w2 ⟨v, rfl, rfl⟩
  go_wp2_with fail
  refine (rload_ok HQ.out.mem o.th _ x HG.out.t0 HG.out.t1 HX0.out HX.out (by have := HG.out.lg; omega)).mono ?_
  rintro e w3 ⟨rfl, hto⟩
  obtain ⟨A1, F1, hkq⟩ := KQ.of HQ.out HRQ.out HA.out hto
  have HKQ := hid hkq
  have r3 : w3.cell? ⟨rb, 3, none⟩ = some (.int .i64 o.twR) := by rw [cell_of hkq.at_]; rfl
  have r6 : w3.cell? ⟨rb, 6, none⟩ = some (.int .u64 o.w) := by rw [cell_of hkq.at_]; rfl
  have r5 : w3.cell? ⟨rb, 5, none⟩ = some (.int .u8 o.pc) := by rw [cell_of hkq.at_]; rfl
  have r10 : w3.cell? ⟨rb, 10, none⟩ = some (.int .i64 o.e) := by rw [cell_of hkq.at_]; rfl
  have fr : ∀ i, w3.frozen? ⟨rb, i, none⟩ = false := fun i => free_of hkq.at_ i
  have f5 := fr 5
  have f6 := fr 6
  have f10 := fr 10
  have rz : rb < w3.heap.size := lt_of_block hkq.at_
  clear hto hkq r1 fr
  obtain ⟨x0, x1⟩ := HG.out.g4 HP4.out
  cases hgv : o.gv with
  | true =>
    have htw := (HG.out.gv hgv).1
    have d3 : decide (0 < o.twR) = true := decide_eq_true (by unfold PO.twR; rw [if_pos hgv]; omega)
    have HOE := hid (show O' = { o with w := x, pc := 7 } from by rw [HO.out]; unfold PO.op; rw [if_pos HP4.out, if_pos hgv])
    have HGV := hid hgv
    clear hgv htw
    go_wp2
    go_quiet (fail)
    go_wp2
    go_ret2
    refine R14To.pre HK.out ?_
    rw [HSE.out, HOE.out]
    have hr := set_same (set_same HKQ.out.at_ (i := 6) (.int .u64 x)) (i := 5) (.int .u8 7)
    have hr2 : RRunAt (((w3.setCell ⟨rb, 6, none⟩ (.int .u64 x)).setCell ⟨rb, 5, none⟩ (.int .u8 7)).drewN nq) rb pb { o with w := x, pc := 7 } := by
      refine ((Keep.refl Nil _).drewN nq).at (hr.trans ?_) (fun h => h)
      unfold rrCells PO.twR PO.got
      simp [HGV.out]
    exact HKQ.out.done hr2 ((kone14.trans kone14 (fun _ _ h => h)).drewN nq)
  | false =>
    have d3 : decide (0 < o.twR) = false := decide_eq_false (by unfold PO.twR; rw [if_neg (by rw [hgv]; decide)]; omega)
    have HGV := hid hgv
    go_upto_region 10 with fail
    go_wp2_with fail
    refine (r1tower x x0).mono ?_
    rintro e w4 ⟨rfl, rfl⟩
    by_cases hz : x % 65536 = 0
    · have dz : (x % 65536 == 0) = true := beq_iff_eq.2 hz
      have HOE := hid (show O' = { o with w := x, tw := 0, pc := 0, e := 6 } from by rw [HO.out]; unfold PO.op; rw [if_pos HP4.out, if_neg (by rw [hgv]; decide), if_pos hz])
      clear hgv hz
      go_wp2
      go_quiet (fail)
      go_wp2
      go_ret2
      refine R14To.pre HK.out ?_
      rw [HSE.out, HOE.out]
      have hr := set_same (set_same (set_same HKQ.out.at_ (i := 6) (.int .u64 x)) (i := 5) (.int .u8 0)) (i := 10) (.int .i64 6)
      have hr2 : RRunAt ((((w3.setCell ⟨rb, 6, none⟩ (.int .u64 x)).setCell ⟨rb, 5, none⟩ (.int .u8 0)).setCell ⟨rb, 10, none⟩ (.int .i64 6)).drewN nq) rb pb { o with w := x, tw := 0, pc := 0, e := 6 } := by
        refine ((Keep.refl Nil _).drewN nq).at (hr.trans ?_) (fun h => h)
        unfold rrCells PO.twR PO.got
        simp [HGV.out, HP4.out]
      exact HKQ.out.done hr2 (((kone14.trans kone14 (fun _ _ h => h)).trans kone14 (fun _ _ h => h)).drewN nq)
    · have dz : (x % 65536 == 0) = false := beq_eq_false_iff_ne.2 hz
      have HOE := hid (show O' = { o with w := x, tw := x % 65536, pc := 5 } from by rw [HO.out]; unfold PO.op; rw [if_pos HP4.out, if_neg (by rw [hgv]; decide), if_neg hz])
      clear hgv hz
      go_wp2
      go_quiet (fail)
      go_wp2
      go_ret2
      refine R14To.pre HK.out ?_
      rw [HSE.out, HOE.out]
      have hr := set_same (set_same HKQ.out.at_ (i := 6) (.int .u64 x)) (i := 5) (.int .u8 5)
      have hr2 : RRunAt (((w3.setCell ⟨rb, 6, none⟩ (.int .u64 x)).setCell ⟨rb, 5, none⟩ (.int .u8 5)).drewN nq) rb pb { o with w := x, tw := x % 65536, pc := 5 } := by
        refine ((Keep.refl Nil _).drewN nq).at (hr.trans ?_) (fun h => h)
        unfold rrCells PO.twR PO.got
        simp [HGV.out, HP4.out]
      exact HKQ.out.done hr2 ((kone14.trans kone14 (fun _ _ h => h)).drewN nq)
/-! The other steps. -/
theorem KQ.done2 {pc : Int} (h : KQ w A c pb mb l tb vb gb rb G s' o w1 A1 F1) {s2 : PSt} (h2 : RPA w2 A1 c pb mb l tb vb gb F1 G s2) (hr : RRunAt w2 rb pb o') (hk : Keep (fun k => k = rb ∨ k = tb ∨ k = vb ∨ k = gb) w1 w2) : R14To w A c pb mb l rb s2 o' pc (.returned (.tuple #[.int .u8 pc, .bool (o'.pc == 0)])) w2 := by
  refine ⟨rfl, A1, ⟨tb, vb, gb, F1, G, h2⟩, hr, (h.keep.mono (T := fun k => A k ∨ k = rb) (fun _ _ h => .inl h)).trans hk (fun k hz e => ?_), h.foot⟩
  have back : A1 k → A k := fun e => (h.foot k e).resolve_right (fun e => by omega)
  rcases e with rfl | rfl | rfl | rfl
  · exact .inr rfl
  · exact .inl (back ((h.pa.foot _).2 (.inr (.inl rfl))))
  · exact .inl (back ((h.pa.foot _).2 (.inr (.inr (.inl rfl)))))
  · exact .inl (back ((h.pa.foot _).2 (.inr (.inr (.inr (.inl rfl))))))
theorem R14To.pre2 {pc : Int} {e : Ending} (hk : Keep (fun k => k = rb) w w1) (h : R14To w1 A c pb mb l rb s' o' pc e w2) : R14To w A c pb mb l rb s' o' pc e w2 := by
  obtain ⟨h1, B', h2, h3, h4, h5⟩ := h
  exact ⟨h1, B', h2, h3, (hk.mono (T := fun k => A k ∨ k = rb) (fun _ _ h => .inr h)).trans h4 (fun _ _ h => h), fun k e => (h5 k e).imp id (fun e => by have := hk.size; omega)⟩
set_option maxRecDepth 100000 in
set_option maxHeartbeats 8000000 in
theorem r14step_5 (h : RPA w A c pb mb l tb vb gb F G s) (ho : RRunAt w rb pb o) (nA : ¬ A rb) (hok : c.ok) (hg : RGo c s o x) (hp : o.pc = 5) (hgv : o.gv = false) (hx : s.ws[o.at c]? = some x) : Calls Tryz.prog 91 #[.pointer (some ⟨rb, 0, none⟩)] w (R14To w A c pb mb l rb (o.st c s x) (o.op x) o.pc) := by
  obtain ⟨S', hS⟩ : ∃ S', S' = o.st c s x := ⟨_, rfl⟩
  obtain ⟨O', hO⟩ : ∃ O', O' = o.op x := ⟨_, rfl⟩
  rw [← hS, ← hO, hp]
  have HS := hid hS
  have HO := hid hO
  have H := hid h
  have HR := hid ho
  have HG := hid hg
  have HA := hid nA
  have HGV := hid hgv
  have HP4 := hid hp
  have d0 : (o.pc == 0) = false := beq_eq_false_iff_ne.2 (by omega)
  have r0 : w.cell? ⟨rb, 0, none⟩ = some (.pointer (some ⟨pb, 0, none⟩)) := by rw [cell_of ho]; rfl
  have r1 : w.cell? ⟨rb, 1, none⟩ = some (.int .i64 o.th) := by rw [cell_of ho]; rfl
  have r2 : w.cell? ⟨rb, 2, none⟩ = some (.int .i64 (o.ht : Int)) := by rw [cell_of ho]; rfl
  have r5 : w.cell? ⟨rb, 5, none⟩ = some (.int .u8 5) := by rw [cell_of ho, ← hp]; rfl
  have r6 : w.cell? ⟨rb, 6, none⟩ = some (.int .u64 o.w) := by rw [cell_of ho]; rfl
  have rz := lt_of_block ho
  obtain ⟨p0, p1, p2, p3, p4, pz⟩ := h.cells
  have hl : RLC w l c := h.lay.1
  have l21 := hl.c21
  have l22 := hl.c22
  have lz := hl.lt
  have ht6 := hg.h6
  have ht1 := hg.h1
  have HNT := hid hok.nT
  obtain ⟨ow0, ow1⟩ := hg.gw (by omega)
  obtain ⟨tw1, tw2, twe⟩ := hg.tk hgv (by omega)
  have HTW := hid (And.intro tw1 tw2)
  have htn := hok.nT
  have hpl : c.pools ≤ 65536 := by have := rl_words hok; obtain ⟨a1, a2, a3, a4, a5, a6, a7, a8, a9⟩ := plc_lt c; omega
  have hlk : c.links ≤ 65536 := by have := rl_words hok; obtain ⟨a1, a2, a3, a4, a5, a6, a7, a8, a9⟩ := plc_lt c; omega
  have w1' : IntKind.i64.wrap ((c.pools : Int) + (o.ht : Int)) = (c.pools : Int) + (o.ht : Int) := by rw [IntKind.wrap_i64]; omega
  have w2' : IntKind.i64.wrap ((c.pools : Int) + (o.ht : Int) - 1) = (c.pools : Int) + (o.ht : Int) - 1 := by rw [IntKind.wrap_i64]; omega
  have w3' : IntKind.i64.wrap ((c.links : Int) - 1) = (c.links : Int) - 1 := by rw [IntKind.wrap_i64]; omega
  have hat : o.at c = c.links + o.tw.toNat - 1 := by unfold PO.at; rw [if_pos (by omega)]
  obtain ⟨AD, hAD⟩ : ∃ AD : Int, AD = (c.links : Int) - 1 + o.w % 65536 := ⟨_, rfl⟩
  have HATE := hid (show ((o.at c : Nat) : Int) = AD by rw [hat, hAD]; omega)
  have w4' : IntKind.i64.wrap ((c.links : Int) - 1 + o.w % 65536) = AD := by rw [hAD, IntKind.wrap_i64]; omega
  have HX := hid (show s.ws[AD.toNat]? = some x from by rw [show AD.toNat = o.at c by rw [hat]; omega]; exact hx)
  have HX0 := hid (show 0 ≤ AD by omega)
  have HADN := hid (show AD.toNat = o.at c by rw [hat]; omega)
  have HOW := hid (And.intro ow0 ow1)
  have HSE := hid (show S' = { s with log := s.log ++ [⟨o.th, AD, 1, x, x, false⟩] } from by rw [HS.out]; unfold PO.st; rw [if_pos (.inr hp), HATE.out])
  have HOE := hid (show O' = { o with bl := x, pc := 6 } from by rw [HO.out]; unfold PO.op; rw [if_neg (by omega), if_pos hp])
  clear h ho nA hg hl hat hpl hlk hx hS hO hp ht6 ht1 hgv tw1 tw2 htn hAD
  go_enter Tryz.func91, Tryz.ntmps91
  go_wp2
  go_quiet (fail)
  obtain ⟨W, hW⟩ : ∃ W, W = w.drewN nq := ⟨_, rfl⟩
  rw [← hW]
  have HK := hid (show Keep Nil w W from hW ▸ (Keep.refl Nil w).drewN _)
  have HQ := hid (H.out.quiet HK.out)
  have HRQ := hid (show RRunAt W rb pb o from HK.out.at HR.out (fun h => h))
  have r1 := HK.out.cell r1 (fun h => h)
  have r6 := HK.out.cell r6 (fun h => h)
  have r3 : W.cell? ⟨rb, 3, none⟩ = some (.int .i64 o.twR) := by rw [cell_of HRQ.out]; rfl
  have r7 : W.cell? ⟨rb, 7, none⟩ = some (.int .u64 o.bl) := by rw [cell_of HRQ.out]; rfl
  have rz : rb < W.heap.size := by have := HK.out.size; omega
  clear hW r0 r2 r5 p0 p1 p2 p3 p4 pz l21 l22 lz
  go_wp2_with fail
  refine (r1tower o.w ow0).mono ?_
  rintro e w2 ⟨rfl, rfl⟩
  go_wp2_with fail
  refine (rload_ok HQ.out.mem o.th _ x HG.out.t0 HG.out.t1 HX0.out HX.out (by have := HG.out.lg; omega)).mono ?_
  rintro e w10 ⟨rfl, hto⟩
  obtain ⟨A1, F1, hkq⟩ := KQ.of HQ.out HRQ.out HA.out hto
  have HKQ := hid hkq
  clear hto hkq r1 r3 r6 r7
  have r0 : w10.cell? ⟨rb, 0, none⟩ = some (.pointer (some ⟨pb, 0, none⟩)) := by rw [cell_of HKQ.out.at_]; rfl
  have r3 : w10.cell? ⟨rb, 3, none⟩ = some (.int .i64 o.twR) := by rw [cell_of HKQ.out.at_]; rfl
  have r4 : w10.cell? ⟨rb, 4, none⟩ = some (.int .i64 o.tr) := by rw [cell_of HKQ.out.at_]; rfl
  have r5 : w10.cell? ⟨rb, 5, none⟩ = some (.int .u8 o.pc) := by rw [cell_of HKQ.out.at_]; rfl
  have r7 : w10.cell? ⟨rb, 7, none⟩ = some (.int .u64 o.bl) := by rw [cell_of HKQ.out.at_]; rfl
  have r8 : w10.cell? ⟨rb, 8, none⟩ = some (.int .i64 o.got) := by rw [cell_of HKQ.out.at_]; rfl
  have r9 : w10.cell? ⟨rb, 9, none⟩ = some (.int .i64 o.fl) := by rw [cell_of HKQ.out.at_]; rfl
  have r10 : w10.cell? ⟨rb, 10, none⟩ = some (.int .i64 o.e) := by rw [cell_of HKQ.out.at_]; rfl
  have fr : ∀ i, w10.frozen? ⟨rb, i, none⟩ = false := fun i => free_of HKQ.out.at_ i
  have f5 := fr 5
  have f7 := fr 7
  have f8 := fr 8
  have f9 := fr 9
  have f10 := fr 10
  have rz : rb < w10.heap.size := lt_of_block HKQ.out.at_
  clear fr
  go_wp2
  go_quiet (fail)
  go_wp2
  go_ret2
  refine R14To.pre HK.out ?_
  rw [HSE.out, HOE.out]
  have hr2 : RRunAt (((w10.setCell ⟨rb, 7, none⟩ (.int .u64 x)).setCell ⟨rb, 5, none⟩ (.int .u8 6)).drewN nq) rb pb { o with bl := x, pc := 6 } := by
    refine ((Keep.refl Nil _).drewN nq).at ((set_same (set_same HKQ.out.at_ (i := 7) (.int .u64 x)) (i := 5) (.int .u8 6)).trans ?_) (fun h => h)
    unfold rrCells PO.twR PO.got
    simp [HGV.out, HP4.out]
  exact HKQ.out.done hr2 ((kone14.trans kone14 (fun _ _ h => h)).drewN nq)
set_option maxRecDepth 100000 in
set_option maxHeartbeats 8000000 in
theorem r14step_7 (h : RPA w A c pb mb l tb vb gb F G s) (ho : RRunAt w rb pb o) (nA : ¬ A rb) (hok : c.ok) (hg : RGo c s o x) (hp : o.pc = 7) (hgv : o.gv = true) (hx : s.ws[o.at c]? = some x) : Calls Tryz.prog 91 #[.pointer (some ⟨rb, 0, none⟩)] w (R14To w A c pb mb l rb (o.st c s x) (o.op x) o.pc) := by
  obtain ⟨S', hS⟩ : ∃ S', S' = o.st c s x := ⟨_, rfl⟩
  obtain ⟨O', hO⟩ : ∃ O', O' = o.op x := ⟨_, rfl⟩
  rw [← hS, ← hO, hp]
  have HS := hid hS
  have HO := hid hO
  have H := hid h
  have HR := hid ho
  have HG := hid hg
  have HA := hid nA
  have HGV := hid hgv
  have HP4 := hid hp
  have d0 : (o.pc == 0) = false := beq_eq_false_iff_ne.2 (by omega)
  have r0 : w.cell? ⟨rb, 0, none⟩ = some (.pointer (some ⟨pb, 0, none⟩)) := by rw [cell_of ho]; rfl
  have r1 : w.cell? ⟨rb, 1, none⟩ = some (.int .i64 o.th) := by rw [cell_of ho]; rfl
  have r2 : w.cell? ⟨rb, 2, none⟩ = some (.int .i64 (o.ht : Int)) := by rw [cell_of ho]; rfl
  have r5 : w.cell? ⟨rb, 5, none⟩ = some (.int .u8 7) := by rw [cell_of ho, ← hp]; rfl
  have r6 : w.cell? ⟨rb, 6, none⟩ = some (.int .u64 o.w) := by rw [cell_of ho]; rfl
  have rz := lt_of_block ho
  obtain ⟨p0, p1, p2, p3, p4, pz⟩ := h.cells
  have hl : RLC w l c := h.lay.1
  have l21 := hl.c21
  have l22 := hl.c22
  have lz := hl.lt
  have ht6 := hg.h6
  have ht1 := hg.h1
  have HNT := hid hok.nT
  obtain ⟨ow0, ow1⟩ := hg.gw (by omega)
  obtain ⟨tw1, tw2⟩ := hg.gv hgv
  have HTW := hid (And.intro tw1 tw2)
  have htn := hok.nT
  have hpl : c.pools ≤ 65536 := by have := rl_words hok; obtain ⟨a1, a2, a3, a4, a5, a6, a7, a8, a9⟩ := plc_lt c; omega
  have hlk : c.links ≤ 65536 := by have := rl_words hok; obtain ⟨a1, a2, a3, a4, a5, a6, a7, a8, a9⟩ := plc_lt c; omega
  have w1' : IntKind.i64.wrap ((c.pools : Int) + (o.ht : Int)) = (c.pools : Int) + (o.ht : Int) := by rw [IntKind.wrap_i64]; omega
  have w2' : IntKind.i64.wrap ((c.pools : Int) + (o.ht : Int) - 1) = (c.pools : Int) + (o.ht : Int) - 1 := by rw [IntKind.wrap_i64]; omega
  have w3' : IntKind.i64.wrap ((c.links : Int) - 1) = (c.links : Int) - 1 := by rw [IntKind.wrap_i64]; omega
  have hat : o.at c = c.links + o.tw.toNat - 1 := by unfold PO.at; rw [if_pos (by omega)]
  obtain ⟨AD, hAD⟩ : ∃ AD : Int, AD = (c.links : Int) - 1 + o.tw := ⟨_, rfl⟩
  have HATE := hid (show ((o.at c : Nat) : Int) = AD by rw [hat, hAD]; omega)
  have w4' : IntKind.i64.wrap ((c.links : Int) - 1 + o.tw) = AD := by rw [hAD, IntKind.wrap_i64]; omega
  have HX := hid (show s.ws[AD.toNat]? = some x from by rw [show AD.toNat = o.at c by rw [hat]; omega]; exact hx)
  have HX0 := hid (show 0 ≤ AD by omega)
  have HADN := hid (show AD.toNat = o.at c by rw [hat]; omega)
  have HOW := hid (And.intro ow0 ow1)
  have HSE := hid (show S' = { s with ws := s.ws.set (o.at c) (o.w % 65536), log := s.log ++ [⟨o.th, AD, 2, x, o.w % 65536, false⟩] } from by rw [HS.out]; unfold PO.st; rw [if_neg (by omega), if_pos hp, HATE.out])
  have HOE := hid (show O' = { o with pc := 8 } from by rw [HO.out]; unfold PO.op; rw [if_neg (by omega), if_neg (by omega), if_pos hp])
  have HTR := hid (show o.twR = o.tw from by unfold PO.twR; rw [if_pos hgv])
  have wu : IntKind.u64.wrap (o.w % 65536) = o.w % 65536 := by rw [IntKind.wrap_u64]; omega
  clear h ho nA hg hl hat hpl hlk hx hS hO hp ht6 ht1 hgv tw1 tw2 htn hAD
  go_enter Tryz.func91, Tryz.ntmps91
  go_wp2
  go_quiet (fail)
  obtain ⟨W, hW⟩ : ∃ W, W = w.drewN nq := ⟨_, rfl⟩
  rw [← hW]
  have HK := hid (show Keep Nil w W from hW ▸ (Keep.refl Nil w).drewN _)
  have HQ := hid (H.out.quiet HK.out)
  have HRQ := hid (show RRunAt W rb pb o from HK.out.at HR.out (fun h => h))
  have r1 := HK.out.cell r1 (fun h => h)
  have r6 := HK.out.cell r6 (fun h => h)
  have r3 : W.cell? ⟨rb, 3, none⟩ = some (.int .i64 o.twR) := by rw [cell_of HRQ.out]; rfl
  have r7 : W.cell? ⟨rb, 7, none⟩ = some (.int .u64 o.bl) := by rw [cell_of HRQ.out]; rfl
  have rz : rb < W.heap.size := by have := HK.out.size; omega
  clear hW r0 r2 r5 p0 p1 p2 p3 p4 pz l21 l22 lz
  go_wp2_with fail
  refine (r1tower o.w ow0).mono ?_
  rintro e w2 ⟨rfl, rfl⟩
  rw [HTR.out] at r3
  have KD := hid ((Keep.refl Nil W).drew)
  go_upto_region 17 with fail
  go_region_held3 (fun w' => w'.cell? ⟨rb, 1, none⟩ = some (.int .i64 o.th) ∧ w'.cell? ⟨rb, 3, none⟩ = some (.int .i64 o.tw)) (first | (exact s9; done) | go_keep)
    (first
      | (go_at_call 103; (with_reducible refine (rstore_ok (HQ.out.quiet KD.out).mem o.th AD x (o.w % 65536) HG.out.t0 HG.out.t1 HX0.out HX.out (by have := HG.out.lg; omega)).mono ?_); rintro e w10 ⟨rfl, hto⟩; have hq := KQ.of (HQ.out.quiet KD.out) (KD.out.at HRQ.out (fun h => h)) HA.out hto; have s9 : w10.cell? ⟨rb, 1, none⟩ = some (.int .i64 o.th) ∧ w10.cell? ⟨rb, 3, none⟩ = some (.int .i64 o.tw) := ⟨(by rw [cell_of hq.choose_spec.choose_spec.at_]; rfl), (by rw [cell_of hq.choose_spec.choose_spec.at_, ← HTR.out]; rfl)⟩; have HKX := hid hq; clear hto hq))
  obtain ⟨A1, F1, hkq⟩ := HKX.out
  rw [HADN.out] at hkq
  have HKQ := hid hkq
  clear hkq HKX
  have r0 : w10.cell? ⟨rb, 0, none⟩ = some (.pointer (some ⟨pb, 0, none⟩)) := by rw [cell_of HKQ.out.at_]; rfl
  have r3 : w10.cell? ⟨rb, 3, none⟩ = some (.int .i64 o.twR) := by rw [cell_of HKQ.out.at_]; rfl
  have r4 : w10.cell? ⟨rb, 4, none⟩ = some (.int .i64 o.tr) := by rw [cell_of HKQ.out.at_]; rfl
  have r5 : w10.cell? ⟨rb, 5, none⟩ = some (.int .u8 o.pc) := by rw [cell_of HKQ.out.at_]; rfl
  have r7 : w10.cell? ⟨rb, 7, none⟩ = some (.int .u64 o.bl) := by rw [cell_of HKQ.out.at_]; rfl
  have r8 : w10.cell? ⟨rb, 8, none⟩ = some (.int .i64 o.got) := by rw [cell_of HKQ.out.at_]; rfl
  have r9 : w10.cell? ⟨rb, 9, none⟩ = some (.int .i64 o.fl) := by rw [cell_of HKQ.out.at_]; rfl
  have r10 : w10.cell? ⟨rb, 10, none⟩ = some (.int .i64 o.e) := by rw [cell_of HKQ.out.at_]; rfl
  have fr : ∀ i, w10.frozen? ⟨rb, i, none⟩ = false := fun i => free_of HKQ.out.at_ i
  have f5 := fr 5
  have f7 := fr 7
  have f8 := fr 8
  have f9 := fr 9
  have f10 := fr 10
  have rz : rb < w10.heap.size := lt_of_block HKQ.out.at_
  clear fr
  have HK2 := hid (HK.out.trans KD.out (fun _ _ h => h))
  go_wp2
  go_quiet (fail)
  go_wp2
  go_ret2
  refine R14To.pre HK2.out ?_
  rw [HSE.out, HOE.out]
  have hr2 : RRunAt ((w10.setCell ⟨rb, 5, none⟩ (.int .u8 8)).drewN nq) rb pb { o with pc := 8 } := by
    refine ((Keep.refl Nil _).drewN nq).at ((set_same HKQ.out.at_ (i := 5) (.int .u8 8)).trans ?_) (fun h => h)
    unfold rrCells PO.twR PO.got
    simp [HGV.out, HP4.out]
  exact HKQ.out.done hr2 (kone14.drewN nq)
set_option maxRecDepth 100000 in
set_option maxHeartbeats 8000000 in
theorem r14step_6n (h : RPA w A c pb mb l tb vb gb F G s) (ho : RRunAt w rb pb o) (nA : ¬ A rb) (hok : c.ok) (hg : RGo c s o x) (hp : o.pc = 6) (hgv : o.gv = false) (hne : x ≠ o.w) (htr : o.fl + 1 ≠ o.tr) (hx : s.ws[o.at c]? = some x) : Calls Tryz.prog 91 #[.pointer (some ⟨rb, 0, none⟩)] w (R14To w A c pb mb l rb (o.st c s x) (o.op x) o.pc) := by
  obtain ⟨S', hS⟩ : ∃ S', S' = o.st c s x := ⟨_, rfl⟩
  obtain ⟨O', hO⟩ : ∃ O', O' = o.op x := ⟨_, rfl⟩
  rw [← hS, ← hO, hp]
  have HS := hid hS
  have HO := hid hO
  have H := hid h
  have HR := hid ho
  have HG := hid hg
  have HA := hid nA
  have HGV := hid hgv
  have HP4 := hid hp
  have d0 : (o.pc == 0) = false := beq_eq_false_iff_ne.2 (by omega)
  have r0 : w.cell? ⟨rb, 0, none⟩ = some (.pointer (some ⟨pb, 0, none⟩)) := by rw [cell_of ho]; rfl
  have r1 : w.cell? ⟨rb, 1, none⟩ = some (.int .i64 o.th) := by rw [cell_of ho]; rfl
  have r2 : w.cell? ⟨rb, 2, none⟩ = some (.int .i64 (o.ht : Int)) := by rw [cell_of ho]; rfl
  have r5 : w.cell? ⟨rb, 5, none⟩ = some (.int .u8 6) := by rw [cell_of ho, ← hp]; rfl
  have r6 : w.cell? ⟨rb, 6, none⟩ = some (.int .u64 o.w) := by rw [cell_of ho]; rfl
  have rz := lt_of_block ho
  obtain ⟨p0, p1, p2, p3, p4, pz⟩ := h.cells
  have hl : RLC w l c := h.lay.1
  have l21 := hl.c21
  have l22 := hl.c22
  have lz := hl.lt
  have ht6 := hg.h6
  have ht1 := hg.h1
  have HNT := hid hok.nT
  obtain ⟨ow0, ow1⟩ := hg.gw (by omega)
  obtain ⟨tw1, tw2, twe⟩ := hg.tk hgv (by omega)
  have HTW := hid (And.intro tw1 tw2)
  have htn := hok.nT
  have hpl : c.pools ≤ 65536 := by have := rl_words hok; obtain ⟨a1, a2, a3, a4, a5, a6, a7, a8, a9⟩ := plc_lt c; omega
  have hlk : c.links ≤ 65536 := by have := rl_words hok; obtain ⟨a1, a2, a3, a4, a5, a6, a7, a8, a9⟩ := plc_lt c; omega
  have w1' : IntKind.i64.wrap ((c.pools : Int) + (o.ht : Int)) = (c.pools : Int) + (o.ht : Int) := by rw [IntKind.wrap_i64]; omega
  have w3' : IntKind.i64.wrap ((c.links : Int) - 1) = (c.links : Int) - 1 := by rw [IntKind.wrap_i64]; omega
  have hat : o.at c = c.pools + o.ht - 1 := by unfold PO.at; rw [if_neg (by omega)]
  obtain ⟨AD, hAD⟩ : ∃ AD : Int, AD = (c.pools : Int) + (o.ht : Int) - 1 := ⟨_, rfl⟩
  have w2' : IntKind.i64.wrap ((c.pools : Int) + (o.ht : Int) - 1) = AD := by rw [hAD, IntKind.wrap_i64]; omega
  have HATE := hid (show ((o.at c : Nat) : Int) = AD by rw [hat, hAD]; omega)
  have HX := hid (show s.ws[AD.toNat]? = some x from by rw [show AD.toNat = o.at c by rw [hat]; omega]; exact hx)
  have HX0 := hid (show 0 ≤ AD by omega)
  have HADN := hid (show AD.toNat = o.at c by rw [hat]; omega)
  have HOW := hid (And.intro ow0 ow1)
  obtain ⟨b0, b1, f0, f1⟩ := hg.g6 hp
  have wt : IntKind.u64.wrap (o.w / 65536 + 1) = o.w / 65536 + 1 := by rw [IntKind.wrap_u64]; omega
  have wb : IntKind.i64.wrap o.bl = o.bl := by rw [IntKind.wrap_i64]; omega
  have HTG := hid (show 0 ≤ o.w / 65536 + 1 ∧ o.w / 65536 + 1 ≤ 1099511627775 ∧ o.w < 18446744073709551616 by omega)
  have HBL := hid (And.intro b0 b1)
  obtain ⟨NW, hNW⟩ : ∃ NW : Int, NW = o.bl + 65536 * (o.w / 65536 + 1) := ⟨_, rfl⟩
  have HNW := hid hNW
  have HNWE := hid (show o.nw = NW from by unfold PO.nw; rw [hNW, if_neg (by rw [hgv]; decide)])
  have HSE := hid (show S' = { s with log := s.log ++ [⟨o.th, AD, 4, x, x, false⟩] } from by rw [HS.out]; unfold PO.st; rw [if_neg (by omega), if_neg (by omega), if_neg hne, HATE.out])
  have HOE := hid (show O' = { o with tw := 0, fl := o.fl + 1, pc := 4 } from by rw [HO.out]; unfold PO.op; rw [if_neg (by omega), if_neg (by omega), if_neg (by omega), if_neg hne, if_neg (by rw [hgv]; decide), if_neg htr])
  have HXE := hid hne
  have wf : IntKind.i64.wrap (o.fl + 1) = o.fl + 1 := by rw [IntKind.wrap_i64]; omega
  have dt : (o.fl + 1 == o.tr) = false := beq_eq_false_iff_ne.2 htr
  clear hne hNW b0 b1 f0 f1 htr
  clear h ho nA hg hl hat hpl hlk hx hS hO hp ht6 ht1 hgv tw1 tw2 htn hAD
  go_enter Tryz.func91, Tryz.ntmps91
  go_wp2
  go_quiet (fail)
  obtain ⟨W, hW⟩ : ∃ W, W = w.drewN nq := ⟨_, rfl⟩
  rw [← hW]
  have HK := hid (show Keep Nil w W from hW ▸ (Keep.refl Nil w).drewN _)
  have HQ := hid (H.out.quiet HK.out)
  have HRQ := hid (show RRunAt W rb pb o from HK.out.at HR.out (fun h => h))
  have r1 := HK.out.cell r1 (fun h => h)
  have r6 := HK.out.cell r6 (fun h => h)
  have r3 : W.cell? ⟨rb, 3, none⟩ = some (.int .i64 o.twR) := by rw [cell_of HRQ.out]; rfl
  have r7 : W.cell? ⟨rb, 7, none⟩ = some (.int .u64 o.bl) := by rw [cell_of HRQ.out]; rfl
  have rz : rb < W.heap.size := by have := HK.out.size; omega
  clear hW r0 r2 r5 p0 p1 p2 p3 p4 pz l21 l22 lz
  go_wp2_with fail
  refine (r1tower o.w ow0).mono ?_
  rintro e w2 ⟨rfl, rfl⟩
  go_wp2
  go_quiet (first | (go_at_call 134; exact quiet_eq (r1tag o.w HOW.out.1 HTG.out.2.2)) | (go_at_call 133; exact quiet_eq (r1top (o.w / 65536 + 1) o.bl HTG.out.1 HTG.out.2.1 HBL.out.1 HBL.out.2)))
  obtain ⟨V, hV⟩ : ∃ V, V = W.drewN nq := ⟨_, rfl⟩
  rw [← hV]
  have KV := hid (show Keep Nil W V from hV ▸ (Keep.refl Nil W).drewN _)
  have r1 := KV.out.cell r1 (fun h => h)
  have r6 := KV.out.cell r6 (fun h => h)
  have rz : rb < V.heap.size := by have := KV.out.size; omega
  rw [← HNW.out]
  clear hV r3 r7
  have KD := hid (KV.out.trans ((Keep.refl Nil V).drew) (fun _ _ h => h))
  go_upto_region 21 with fail
  go_region_held3 (fun w' => w'.cell? ⟨rb, 1, none⟩ = some (.int .i64 o.th) ∧ w'.cell? ⟨rb, 6, none⟩ = some (.int .u64 o.w)) (first | (exact s9; done) | go_keep)
    (first
      | (go_at_call 104; (with_reducible refine (rcas_no (HQ.out.quiet KD.out).mem o.th AD x o.w NW HG.out.t0 HG.out.t1 HX0.out HX.out HXE.out (by have := HG.out.lg; omega)).mono ?_); rintro e w10 ⟨rfl, hto⟩; have hq := KQ.of (HQ.out.quiet KD.out) (KD.out.at HRQ.out (fun h => h)) HA.out hto; have s9 : w10.cell? ⟨rb, 1, none⟩ = some (.int .i64 o.th) ∧ w10.cell? ⟨rb, 6, none⟩ = some (.int .u64 o.w) := ⟨(by rw [cell_of hq.choose_spec.choose_spec.at_]; rfl), (by rw [cell_of hq.choose_spec.choose_spec.at_]; rfl)⟩; have HKX := hid hq; clear hto hq))
  obtain ⟨A1, F1, hkq⟩ := HKX.out
  have HKQ := hid hkq
  clear hkq HKX
  have r0 : w10.cell? ⟨rb, 0, none⟩ = some (.pointer (some ⟨pb, 0, none⟩)) := by rw [cell_of HKQ.out.at_]; rfl
  have r3 : w10.cell? ⟨rb, 3, none⟩ = some (.int .i64 o.twR) := by rw [cell_of HKQ.out.at_]; rfl
  have r4 : w10.cell? ⟨rb, 4, none⟩ = some (.int .i64 o.tr) := by rw [cell_of HKQ.out.at_]; rfl
  have r5 : w10.cell? ⟨rb, 5, none⟩ = some (.int .u8 o.pc) := by rw [cell_of HKQ.out.at_]; rfl
  have r7 : w10.cell? ⟨rb, 7, none⟩ = some (.int .u64 o.bl) := by rw [cell_of HKQ.out.at_]; rfl
  have r8 : w10.cell? ⟨rb, 8, none⟩ = some (.int .i64 o.got) := by rw [cell_of HKQ.out.at_]; rfl
  have r9 : w10.cell? ⟨rb, 9, none⟩ = some (.int .i64 o.fl) := by rw [cell_of HKQ.out.at_]; rfl
  have r10 : w10.cell? ⟨rb, 10, none⟩ = some (.int .i64 o.e) := by rw [cell_of HKQ.out.at_]; rfl
  have fr : ∀ i, w10.frozen? ⟨rb, i, none⟩ = false := fun i => free_of HKQ.out.at_ i
  have f5 := fr 5
  have f7 := fr 7
  have f8 := fr 8
  have f9 := fr 9
  have f10 := fr 10
  have rz : rb < w10.heap.size := lt_of_block HKQ.out.at_
  clear fr
  have HK2 := hid (HK.out.trans KD.out (fun _ _ h => h))
  go_wp2
  go_quiet (fail)
  obtain ⟨n1, hn1⟩ : ∃ n1, nq = n1 := ⟨_, rfl⟩
  rw [hn1]
  clear hn1
  go_wp2
  go_quiet (fail)
  go_wp2
  go_ret2
  refine R14To.pre HK2.out ?_
  rw [HSE.out, HOE.out]
  have hr2 : RRunAt ((((w10.setCell ⟨rb, 9, none⟩ (.int .i64 (o.fl + 1))).setCell ⟨rb, 5, none⟩ (.int .u8 4)).drewN n1).drewN nq) rb pb { o with tw := 0, fl := o.fl + 1, pc := 4 } := by
    refine (((Keep.refl Nil _).drewN n1).drewN nq).at ((set_same (set_same HKQ.out.at_ (i := 9) (.int .i64 (o.fl + 1))) (i := 5) (.int .u8 4)).trans ?_) (fun h => h)
    unfold rrCells PO.twR PO.got
    simp [HGV.out, HP4.out]
  exact HKQ.out.done hr2 (((kone14.trans kone14 (fun _ _ h => h)).drewN n1).drewN nq)
set_option maxRecDepth 100000 in
set_option maxHeartbeats 8000000 in
theorem r14step_6e (h : RPA w A c pb mb l tb vb gb F G s) (ho : RRunAt w rb pb o) (nA : ¬ A rb) (hok : c.ok) (hg : RGo c s o x) (hp : o.pc = 6) (hgv : o.gv = false) (hne : x ≠ o.w) (htr : o.fl + 1 = o.tr) (hx : s.ws[o.at c]? = some x) : Calls Tryz.prog 91 #[.pointer (some ⟨rb, 0, none⟩)] w (R14To w A c pb mb l rb (o.st c s x) (o.op x) o.pc) := by
  obtain ⟨S', hS⟩ : ∃ S', S' = o.st c s x := ⟨_, rfl⟩
  obtain ⟨O', hO⟩ : ∃ O', O' = o.op x := ⟨_, rfl⟩
  rw [← hS, ← hO, hp]
  have HS := hid hS
  have HO := hid hO
  have H := hid h
  have HR := hid ho
  have HG := hid hg
  have HA := hid nA
  have HGV := hid hgv
  have HP4 := hid hp
  have d0 : (o.pc == 0) = false := beq_eq_false_iff_ne.2 (by omega)
  have r0 : w.cell? ⟨rb, 0, none⟩ = some (.pointer (some ⟨pb, 0, none⟩)) := by rw [cell_of ho]; rfl
  have r1 : w.cell? ⟨rb, 1, none⟩ = some (.int .i64 o.th) := by rw [cell_of ho]; rfl
  have r2 : w.cell? ⟨rb, 2, none⟩ = some (.int .i64 (o.ht : Int)) := by rw [cell_of ho]; rfl
  have r5 : w.cell? ⟨rb, 5, none⟩ = some (.int .u8 6) := by rw [cell_of ho, ← hp]; rfl
  have r6 : w.cell? ⟨rb, 6, none⟩ = some (.int .u64 o.w) := by rw [cell_of ho]; rfl
  have rz := lt_of_block ho
  obtain ⟨p0, p1, p2, p3, p4, pz⟩ := h.cells
  have hl : RLC w l c := h.lay.1
  have l21 := hl.c21
  have l22 := hl.c22
  have lz := hl.lt
  have ht6 := hg.h6
  have ht1 := hg.h1
  have HNT := hid hok.nT
  obtain ⟨ow0, ow1⟩ := hg.gw (by omega)
  obtain ⟨tw1, tw2, twe⟩ := hg.tk hgv (by omega)
  have HTW := hid (And.intro tw1 tw2)
  have htn := hok.nT
  have hpl : c.pools ≤ 65536 := by have := rl_words hok; obtain ⟨a1, a2, a3, a4, a5, a6, a7, a8, a9⟩ := plc_lt c; omega
  have hlk : c.links ≤ 65536 := by have := rl_words hok; obtain ⟨a1, a2, a3, a4, a5, a6, a7, a8, a9⟩ := plc_lt c; omega
  have w1' : IntKind.i64.wrap ((c.pools : Int) + (o.ht : Int)) = (c.pools : Int) + (o.ht : Int) := by rw [IntKind.wrap_i64]; omega
  have w3' : IntKind.i64.wrap ((c.links : Int) - 1) = (c.links : Int) - 1 := by rw [IntKind.wrap_i64]; omega
  have hat : o.at c = c.pools + o.ht - 1 := by unfold PO.at; rw [if_neg (by omega)]
  obtain ⟨AD, hAD⟩ : ∃ AD : Int, AD = (c.pools : Int) + (o.ht : Int) - 1 := ⟨_, rfl⟩
  have w2' : IntKind.i64.wrap ((c.pools : Int) + (o.ht : Int) - 1) = AD := by rw [hAD, IntKind.wrap_i64]; omega
  have HATE := hid (show ((o.at c : Nat) : Int) = AD by rw [hat, hAD]; omega)
  have HX := hid (show s.ws[AD.toNat]? = some x from by rw [show AD.toNat = o.at c by rw [hat]; omega]; exact hx)
  have HX0 := hid (show 0 ≤ AD by omega)
  have HADN := hid (show AD.toNat = o.at c by rw [hat]; omega)
  have HOW := hid (And.intro ow0 ow1)
  obtain ⟨b0, b1, f0, f1⟩ := hg.g6 hp
  have wt : IntKind.u64.wrap (o.w / 65536 + 1) = o.w / 65536 + 1 := by rw [IntKind.wrap_u64]; omega
  have wb : IntKind.i64.wrap o.bl = o.bl := by rw [IntKind.wrap_i64]; omega
  have HTG := hid (show 0 ≤ o.w / 65536 + 1 ∧ o.w / 65536 + 1 ≤ 1099511627775 ∧ o.w < 18446744073709551616 by omega)
  have HBL := hid (And.intro b0 b1)
  obtain ⟨NW, hNW⟩ : ∃ NW : Int, NW = o.bl + 65536 * (o.w / 65536 + 1) := ⟨_, rfl⟩
  have HNW := hid hNW
  have HNWE := hid (show o.nw = NW from by unfold PO.nw; rw [hNW, if_neg (by rw [hgv]; decide)])
  have HSE := hid (show S' = { s with log := s.log ++ [⟨o.th, AD, 4, x, x, false⟩] } from by rw [HS.out]; unfold PO.st; rw [if_neg (by omega), if_neg (by omega), if_neg hne, HATE.out])
  have HOE := hid (show O' = { o with tw := 0, fl := o.fl + 1, pc := 0, e := 11 } from by rw [HO.out]; unfold PO.op; rw [if_neg (by omega), if_neg (by omega), if_neg (by omega), if_neg hne, if_neg (by rw [hgv]; decide), if_pos htr])
  have HXE := hid hne
  have wf : IntKind.i64.wrap (o.fl + 1) = o.fl + 1 := by rw [IntKind.wrap_i64]; omega
  have dt : (o.fl + 1 == o.tr) = true := beq_iff_eq.2 htr
  clear hne hNW b0 b1 f0 f1 htr
  clear h ho nA hg hl hat hpl hlk hx hS hO hp ht6 ht1 hgv tw1 tw2 htn hAD
  go_enter Tryz.func91, Tryz.ntmps91
  go_wp2
  go_quiet (fail)
  obtain ⟨W, hW⟩ : ∃ W, W = w.drewN nq := ⟨_, rfl⟩
  rw [← hW]
  have HK := hid (show Keep Nil w W from hW ▸ (Keep.refl Nil w).drewN _)
  have HQ := hid (H.out.quiet HK.out)
  have HRQ := hid (show RRunAt W rb pb o from HK.out.at HR.out (fun h => h))
  have r1 := HK.out.cell r1 (fun h => h)
  have r6 := HK.out.cell r6 (fun h => h)
  have r3 : W.cell? ⟨rb, 3, none⟩ = some (.int .i64 o.twR) := by rw [cell_of HRQ.out]; rfl
  have r7 : W.cell? ⟨rb, 7, none⟩ = some (.int .u64 o.bl) := by rw [cell_of HRQ.out]; rfl
  have rz : rb < W.heap.size := by have := HK.out.size; omega
  clear hW r0 r2 r5 p0 p1 p2 p3 p4 pz l21 l22 lz
  go_wp2_with fail
  refine (r1tower o.w ow0).mono ?_
  rintro e w2 ⟨rfl, rfl⟩
  go_wp2
  go_quiet (first | (go_at_call 134; exact quiet_eq (r1tag o.w HOW.out.1 HTG.out.2.2)) | (go_at_call 133; exact quiet_eq (r1top (o.w / 65536 + 1) o.bl HTG.out.1 HTG.out.2.1 HBL.out.1 HBL.out.2)))
  obtain ⟨V, hV⟩ : ∃ V, V = W.drewN nq := ⟨_, rfl⟩
  rw [← hV]
  have KV := hid (show Keep Nil W V from hV ▸ (Keep.refl Nil W).drewN _)
  have r1 := KV.out.cell r1 (fun h => h)
  have r6 := KV.out.cell r6 (fun h => h)
  have rz : rb < V.heap.size := by have := KV.out.size; omega
  rw [← HNW.out]
  clear hV r3 r7
  have KD := hid (KV.out.trans ((Keep.refl Nil V).drew) (fun _ _ h => h))
  go_upto_region 21 with fail
  go_region_held3 (fun w' => w'.cell? ⟨rb, 1, none⟩ = some (.int .i64 o.th) ∧ w'.cell? ⟨rb, 6, none⟩ = some (.int .u64 o.w)) (first | (exact s9; done) | go_keep)
    (first
      | (go_at_call 104; (with_reducible refine (rcas_no (HQ.out.quiet KD.out).mem o.th AD x o.w NW HG.out.t0 HG.out.t1 HX0.out HX.out HXE.out (by have := HG.out.lg; omega)).mono ?_); rintro e w10 ⟨rfl, hto⟩; have hq := KQ.of (HQ.out.quiet KD.out) (KD.out.at HRQ.out (fun h => h)) HA.out hto; have s9 : w10.cell? ⟨rb, 1, none⟩ = some (.int .i64 o.th) ∧ w10.cell? ⟨rb, 6, none⟩ = some (.int .u64 o.w) := ⟨(by rw [cell_of hq.choose_spec.choose_spec.at_]; rfl), (by rw [cell_of hq.choose_spec.choose_spec.at_]; rfl)⟩; have HKX := hid hq; clear hto hq))
  obtain ⟨A1, F1, hkq⟩ := HKX.out
  have HKQ := hid hkq
  clear hkq HKX
  have r0 : w10.cell? ⟨rb, 0, none⟩ = some (.pointer (some ⟨pb, 0, none⟩)) := by rw [cell_of HKQ.out.at_]; rfl
  have r3 : w10.cell? ⟨rb, 3, none⟩ = some (.int .i64 o.twR) := by rw [cell_of HKQ.out.at_]; rfl
  have r4 : w10.cell? ⟨rb, 4, none⟩ = some (.int .i64 o.tr) := by rw [cell_of HKQ.out.at_]; rfl
  have r5 : w10.cell? ⟨rb, 5, none⟩ = some (.int .u8 o.pc) := by rw [cell_of HKQ.out.at_]; rfl
  have r7 : w10.cell? ⟨rb, 7, none⟩ = some (.int .u64 o.bl) := by rw [cell_of HKQ.out.at_]; rfl
  have r8 : w10.cell? ⟨rb, 8, none⟩ = some (.int .i64 o.got) := by rw [cell_of HKQ.out.at_]; rfl
  have r9 : w10.cell? ⟨rb, 9, none⟩ = some (.int .i64 o.fl) := by rw [cell_of HKQ.out.at_]; rfl
  have r10 : w10.cell? ⟨rb, 10, none⟩ = some (.int .i64 o.e) := by rw [cell_of HKQ.out.at_]; rfl
  have fr : ∀ i, w10.frozen? ⟨rb, i, none⟩ = false := fun i => free_of HKQ.out.at_ i
  have f5 := fr 5
  have f7 := fr 7
  have f8 := fr 8
  have f9 := fr 9
  have f10 := fr 10
  have rz : rb < w10.heap.size := lt_of_block HKQ.out.at_
  clear fr
  have HK2 := hid (HK.out.trans KD.out (fun _ _ h => h))
  go_wp2
  go_quiet (fail)
  obtain ⟨X, hX⟩ : ∃ X, X = ((w10.setCell ⟨rb, 9, none⟩ (.int .i64 (o.fl + 1))).setCell ⟨rb, 5, none⟩ (.int .u8 4)).drewN nq := ⟨_, rfl⟩
  rw [← hX]
  have kX : Keep (fun k => k = rb) w10 X := hX ▸ (kone14.trans kone14 (fun _ _ h => h)).drewN nq
  have rX : RRunAt X rb pb { o with fl := o.fl + 1, pc := 4 } := by
    rw [hX]
    refine (((Keep.refl Nil _).drewN nq).at (set_same (set_same HKQ.out.at_ (i := 9) (.int .i64 (o.fl + 1))) (i := 5) (.int .u8 4)) (fun h => h)).trans ?_
    unfold rrCells PO.twR PO.got
    simp [HGV.out, HP4.out]
  have HKX := hid kX
  have HRX := hid rX
  clear hX kX rX r0 r3 r4 r5 r7 r8 r9 r10 f5 f7 f8 f9 f10 rz
  have r5 : X.cell? ⟨rb, 5, none⟩ = some (.int .u8 4) := by rw [cell_of HRX.out]; rfl
  have r10 : X.cell? ⟨rb, 10, none⟩ = some (.int .i64 o.e) := by rw [cell_of HRX.out]; rfl
  have f5 : X.frozen? ⟨rb, 5, none⟩ = false := free_of HRX.out 5
  have f10 : X.frozen? ⟨rb, 10, none⟩ = false := free_of HRX.out 10
  have rz : rb < X.heap.size := lt_of_block HRX.out
  go_wp2
  go_quiet (fail)
  go_wp2
  go_ret2
  refine R14To.pre HK2.out ?_
  rw [HSE.out, HOE.out]
  have hr2 := ((Keep.refl Nil _).drewN nq).at (set_same (set_same HRX.out (i := 5) (.int .u8 0)) (i := 10) (.int .i64 11)) (fun h => h)
  exact HKQ.out.done (o' := { o with tw := 0, fl := o.fl + 1, pc := 0, e := 11 }) (by
    refine hr2.trans ?_
    unfold rrCells PO.twR PO.got
    simp [HGV.out, HP4.out]) (((HKX.out.trans kone14 (fun _ _ h => h)).trans kone14 (fun _ _ h => h)).drewN nq)
set_option maxRecDepth 100000 in
set_option maxHeartbeats 8000000 in
theorem r14step_6y (h : RPA w A c pb mb l tb vb gb F G s) (ho : RRunAt w rb pb o) (nA : ¬ A rb) (hok : c.ok) (hg : RGo c s o x) (hp : o.pc = 6) (hgv : o.gv = false) (hne : x = o.w) (hx : s.ws[o.at c]? = some x) : Calls Tryz.prog 91 #[.pointer (some ⟨rb, 0, none⟩)] w (R14To w A c pb mb l rb (o.st c s x) (o.op x) o.pc) := by
  obtain ⟨S', hS⟩ : ∃ S', S' = o.st c s x := ⟨_, rfl⟩
  obtain ⟨O', hO⟩ : ∃ O', O' = o.op x := ⟨_, rfl⟩
  rw [← hS, ← hO, hp]
  have HS := hid hS
  have HO := hid hO
  have H := hid h
  have HR := hid ho
  have HG := hid hg
  have HA := hid nA
  have HGV := hid hgv
  have HP4 := hid hp
  have d0 : (o.pc == 0) = false := beq_eq_false_iff_ne.2 (by omega)
  have r0 : w.cell? ⟨rb, 0, none⟩ = some (.pointer (some ⟨pb, 0, none⟩)) := by rw [cell_of ho]; rfl
  have r1 : w.cell? ⟨rb, 1, none⟩ = some (.int .i64 o.th) := by rw [cell_of ho]; rfl
  have r2 : w.cell? ⟨rb, 2, none⟩ = some (.int .i64 (o.ht : Int)) := by rw [cell_of ho]; rfl
  have r5 : w.cell? ⟨rb, 5, none⟩ = some (.int .u8 6) := by rw [cell_of ho, ← hp]; rfl
  have r6 : w.cell? ⟨rb, 6, none⟩ = some (.int .u64 o.w) := by rw [cell_of ho]; rfl
  have rz := lt_of_block ho
  obtain ⟨p0, p1, p2, p3, p4, pz⟩ := h.cells
  have hl : RLC w l c := h.lay.1
  have l21 := hl.c21
  have l22 := hl.c22
  have lz := hl.lt
  have ht6 := hg.h6
  have ht1 := hg.h1
  have HNT := hid hok.nT
  obtain ⟨ow0, ow1⟩ := hg.gw (by omega)
  obtain ⟨tw1, tw2, twe⟩ := hg.tk hgv (by omega)
  have HTW := hid (And.intro tw1 tw2)
  have htn := hok.nT
  have hpl : c.pools ≤ 65536 := by have := rl_words hok; obtain ⟨a1, a2, a3, a4, a5, a6, a7, a8, a9⟩ := plc_lt c; omega
  have hlk : c.links ≤ 65536 := by have := rl_words hok; obtain ⟨a1, a2, a3, a4, a5, a6, a7, a8, a9⟩ := plc_lt c; omega
  have w1' : IntKind.i64.wrap ((c.pools : Int) + (o.ht : Int)) = (c.pools : Int) + (o.ht : Int) := by rw [IntKind.wrap_i64]; omega
  have w3' : IntKind.i64.wrap ((c.links : Int) - 1) = (c.links : Int) - 1 := by rw [IntKind.wrap_i64]; omega
  have hat : o.at c = c.pools + o.ht - 1 := by unfold PO.at; rw [if_neg (by omega)]
  obtain ⟨AD, hAD⟩ : ∃ AD : Int, AD = (c.pools : Int) + (o.ht : Int) - 1 := ⟨_, rfl⟩
  have w2' : IntKind.i64.wrap ((c.pools : Int) + (o.ht : Int) - 1) = AD := by rw [hAD, IntKind.wrap_i64]; omega
  have HATE := hid (show ((o.at c : Nat) : Int) = AD by rw [hat, hAD]; omega)
  have HX := hid (show s.ws[AD.toNat]? = some x from by rw [show AD.toNat = o.at c by rw [hat]; omega]; exact hx)
  have HX0 := hid (show 0 ≤ AD by omega)
  have HADN := hid (show AD.toNat = o.at c by rw [hat]; omega)
  have HOW := hid (And.intro ow0 ow1)
  obtain ⟨b0, b1, f0, f1⟩ := hg.g6 hp
  have wt : IntKind.u64.wrap (o.w / 65536 + 1) = o.w / 65536 + 1 := by rw [IntKind.wrap_u64]; omega
  have wb : IntKind.i64.wrap o.bl = o.bl := by rw [IntKind.wrap_i64]; omega
  have HTG := hid (show 0 ≤ o.w / 65536 + 1 ∧ o.w / 65536 + 1 ≤ 1099511627775 ∧ o.w < 18446744073709551616 by omega)
  have HBL := hid (And.intro b0 b1)
  obtain ⟨NW, hNW⟩ : ∃ NW : Int, NW = o.bl + 65536 * (o.w / 65536 + 1) := ⟨_, rfl⟩
  have HNW := hid hNW
  have HNWE := hid (show o.nw = NW from by unfold PO.nw; rw [hNW, if_neg (by rw [hgv]; decide)])
  have HSE := hid (show S' = { ws := s.ws.set (o.at c) NW, log := s.log ++ [⟨o.th, AD, 4, o.w, NW, true⟩], out := pup s.out o.tw (some false), gens := s.gens } from by rw [HS.out]; unfold PO.st; rw [if_neg (by omega), if_neg (by omega), if_pos hne, HATE.out, HNWE.out, hgv, hne]; rfl)
  have HOE := hid (show O' = { o with pc := 0 } from by rw [HO.out]; unfold PO.op; rw [if_neg (by omega), if_neg (by omega), if_neg (by omega), if_pos hne])
  have HXE := hid hne
  have HNO := hid (show s.out o.tw ≠ some true from (hg.o6 hp).resolve_right (fun h => h hne))
  have HTE := hid twe
  have ot0 : 0 ≤ o.w % 65536 := by omega
  have ot1 : o.w % 65536 < (c.nT : Int) + 1 := by omega
  obtain ⟨TN, hTN⟩ : ∃ TN : Nat, (TN : Int) = o.w % 65536 := ⟨(o.w % 65536).toNat, by omega⟩
  have HTN := hid hTN
  clear hne hNW b0 b1 f0 f1 hTN twe
  clear h ho nA hg hl hat hpl hlk hx hS hO hp ht6 ht1 hgv tw1 tw2 htn hAD
  go_enter Tryz.func91, Tryz.ntmps91
  go_wp2
  go_quiet (fail)
  obtain ⟨W, hW⟩ : ∃ W, W = w.drewN nq := ⟨_, rfl⟩
  rw [← hW]
  have HK := hid (show Keep Nil w W from hW ▸ (Keep.refl Nil w).drewN _)
  have HQ := hid (H.out.quiet HK.out)
  have HRQ := hid (show RRunAt W rb pb o from HK.out.at HR.out (fun h => h))
  have r1 := HK.out.cell r1 (fun h => h)
  have r6 := HK.out.cell r6 (fun h => h)
  have r3 : W.cell? ⟨rb, 3, none⟩ = some (.int .i64 o.twR) := by rw [cell_of HRQ.out]; rfl
  have r7 : W.cell? ⟨rb, 7, none⟩ = some (.int .u64 o.bl) := by rw [cell_of HRQ.out]; rfl
  have rz : rb < W.heap.size := by have := HK.out.size; omega
  clear hW r0 r2 r5 p0 p1 p2 p3 p4 pz l21 l22 lz
  go_wp2_with fail
  refine (r1tower o.w ow0).mono ?_
  rintro e w2 ⟨rfl, rfl⟩
  go_wp2
  go_quiet (first | (go_at_call 134; exact quiet_eq (r1tag o.w HOW.out.1 HTG.out.2.2)) | (go_at_call 133; exact quiet_eq (r1top (o.w / 65536 + 1) o.bl HTG.out.1 HTG.out.2.1 HBL.out.1 HBL.out.2)))
  obtain ⟨V, hV⟩ : ∃ V, V = W.drewN nq := ⟨_, rfl⟩
  rw [← hV]
  have KV := hid (show Keep Nil W V from hV ▸ (Keep.refl Nil W).drewN _)
  have r1 := KV.out.cell r1 (fun h => h)
  have r6 := KV.out.cell r6 (fun h => h)
  have rz : rb < V.heap.size := by have := KV.out.size; omega
  rw [← HNW.out]
  clear hV r3 r7
  have KD := hid (KV.out.trans ((Keep.refl Nil V).drew) (fun _ _ h => h))
  go_upto_region 21 with fail
  go_region_held3 (fun w' => w'.cell? ⟨rb, 1, none⟩ = some (.int .i64 o.th) ∧ w'.cell? ⟨rb, 6, none⟩ = some (.int .u64 o.w)) (first | (exact s9; done) | go_keep)
    (first
      | (go_at_call 104; (with_reducible refine (rcas_yes (HQ.out.quiet KD.out).mem o.th AD o.w NW HG.out.t0 HG.out.t1 HX0.out (by have := HX.out; rw [HXE.out] at this; exact this) (by have := HG.out.lg; omega)).mono ?_); rintro e w10 ⟨rfl, hto⟩; have hq := KQ.of (HQ.out.quiet KD.out) (KD.out.at HRQ.out (fun h => h)) HA.out hto; have s9 : w10.cell? ⟨rb, 1, none⟩ = some (.int .i64 o.th) ∧ w10.cell? ⟨rb, 6, none⟩ = some (.int .u64 o.w) := ⟨(by rw [cell_of hq.choose_spec.choose_spec.at_]; rfl), (by rw [cell_of hq.choose_spec.choose_spec.at_]; rfl)⟩; have HKX := hid hq; clear hto hq))
  obtain ⟨A1, F1, hkq⟩ := HKX.out
  rw [HADN.out] at hkq
  have HKQ := hid hkq
  clear hkq HKX
  have r0 : w10.cell? ⟨rb, 0, none⟩ = some (.pointer (some ⟨pb, 0, none⟩)) := by rw [cell_of HKQ.out.at_]; rfl
  have r3 : w10.cell? ⟨rb, 3, none⟩ = some (.int .i64 o.twR) := by rw [cell_of HKQ.out.at_]; rfl
  have r4 : w10.cell? ⟨rb, 4, none⟩ = some (.int .i64 o.tr) := by rw [cell_of HKQ.out.at_]; rfl
  have r5 : w10.cell? ⟨rb, 5, none⟩ = some (.int .u8 o.pc) := by rw [cell_of HKQ.out.at_]; rfl
  have r7 : w10.cell? ⟨rb, 7, none⟩ = some (.int .u64 o.bl) := by rw [cell_of HKQ.out.at_]; rfl
  have r8 : w10.cell? ⟨rb, 8, none⟩ = some (.int .i64 o.got) := by rw [cell_of HKQ.out.at_]; rfl
  have r9 : w10.cell? ⟨rb, 9, none⟩ = some (.int .i64 o.fl) := by rw [cell_of HKQ.out.at_]; rfl
  have r10 : w10.cell? ⟨rb, 10, none⟩ = some (.int .i64 o.e) := by rw [cell_of HKQ.out.at_]; rfl
  have fr : ∀ i, w10.frozen? ⟨rb, i, none⟩ = false := fun i => free_of HKQ.out.at_ i
  have f5 := fr 5
  have f7 := fr 7
  have f8 := fr 8
  have f9 := fr 9
  have f10 := fr 10
  have rz : rb < w10.heap.size := lt_of_block HKQ.out.at_
  clear fr
  have HK2 := hid (HK.out.trans KD.out (fun _ _ h => h))
  obtain ⟨q0, q1, q2, q3, q4, qz⟩ := HKQ.out.pa.cells
  obtain ⟨tk, tf, tz⟩ := HKQ.out.pa.tk (t := TN) (by have := HTN.out; have := HTW.out; have := HTE.out; omega)
  have hrt : pb ≠ rb ∧ tb ≠ rb := ⟨fun e => HKQ.out.nA (e ▸ (HKQ.out.pa.foot pb).2 (.inl rfl)), fun e => HKQ.out.nA (e ▸ (HKQ.out.pa.foot tb).2 (.inr (.inl rfl)))⟩
  have HRT := hid hrt
  obtain ⟨hr1, hr2⟩ := hrt
  rw [← HTN.out] at ot0 ot1 ⊢
  go_wp2
  go_quiet (fail)
  go_wp2
  go_ret2
  refine R14To.pre HK2.out ?_
  rw [HSE.out, HOE.out]
  obtain ⟨X, hX⟩ : ∃ X, X = (w10.setCell ⟨rb, 8, none⟩ (.int .i64 (TN : Int))).setCell ⟨rb, 5, none⟩ (.int .u8 0) := ⟨_, rfl⟩
  rw [← hX]
  have kX : Keep (fun k => k = rb) w10 X := hX ▸ (kone14.trans kone14 (fun _ _ h => h))
  have rX : RRunAt X rb pb { o with pc := 0 } := by
    rw [hX]
    refine (set_same (set_same HKQ.out.at_ (i := 8) (.int .i64 (TN : Int))) (i := 5) (.int .u8 0)).trans ?_
    unfold rrCells PO.twR PO.got
    rw [HTN.out, ← HTE.out]
    simp [HGV.out, HP4.out]
  have pX := HKQ.out.pa.keep kX (fun k hk e => HKQ.out.nA (by have e2 : k = rb := e; rw [← e2]; exact hk))
  have kY : Keep (fun k => k = tb ∨ k = vb ∨ k = gb) X (X.setCell ⟨tb, TN, none⟩ (.bool true)) := (Keep.refl (fun k => k = tb ∨ k = vb ∨ k = gb) X).setCell (p := ⟨tb, TN, none⟩) (.inl (.inl rfl)) _
  obtain ⟨n1, n2, n3, n4, n5, n6⟩ := pX.ne
  have pY := pX.rows kY (out' := pup s.out o.tw (some false)) (g' := s.gens) (by
    rw [set_same pX.taken, boolsB_set]
    have := @takenL_set c.nT TN s.out (some false)
    rw [HTN.out, ← HTE.out] at this
    rw [← this]; rfl) (by
    rw [set_other pX.giving (Ne.symm n4)]
    have h1 := @givingL_set c.nT TN s.out (some false)
    have h2 : (givingL c.nT s.out)[TN]? = some (some false == some true) := by
      rw [givingL_at s.out (by have := HTN.out; have := HTW.out; have := HTE.out; omega), HTN.out, ← HTE.out]
      simpa using HNO.out
    rw [list_set_self h2, HTN.out, ← HTE.out] at h1
    rw [← h1]) (set_other pX.gens (Ne.symm n5) _) pX.gl
  exact HKQ.out.done2 (pY.quiet ((Keep.refl Nil _).drewN nq)) (((Keep.refl Nil _).drewN nq).at (set_other rX (Ne.symm HRT.out.2) _) (fun h => h)) (((kX.mono (T := fun k => k = rb ∨ k = tb ∨ k = vb ∨ k = gb) (fun _ _ h => .inl h)).trans (kY.mono (T := fun k => k = rb ∨ k = tb ∨ k = vb ∨ k = gb) (fun _ _ h => .inr h)) (fun _ _ h => h)).drewN nq)
set_option maxRecDepth 100000 in
set_option maxHeartbeats 8000000 in
theorem r14step_8n (h : RPA w A c pb mb l tb vb gb F G s) (ho : RRunAt w rb pb o) (nA : ¬ A rb) (hok : c.ok) (hg : RGo c s o x) (hp : o.pc = 8) (hgv : o.gv = true) (hne : x ≠ o.w) (hx : s.ws[o.at c]? = some x) : Calls Tryz.prog 91 #[.pointer (some ⟨rb, 0, none⟩)] w (R14To w A c pb mb l rb (o.st c s x) (o.op x) o.pc) := by
  obtain ⟨S', hS⟩ : ∃ S', S' = o.st c s x := ⟨_, rfl⟩
  obtain ⟨O', hO⟩ : ∃ O', O' = o.op x := ⟨_, rfl⟩
  rw [← hS, ← hO, hp]
  have HS := hid hS
  have HO := hid hO
  have H := hid h
  have HR := hid ho
  have HG := hid hg
  have HA := hid nA
  have HGV := hid hgv
  have HP4 := hid hp
  have d0 : (o.pc == 0) = false := beq_eq_false_iff_ne.2 (by omega)
  have r0 : w.cell? ⟨rb, 0, none⟩ = some (.pointer (some ⟨pb, 0, none⟩)) := by rw [cell_of ho]; rfl
  have r1 : w.cell? ⟨rb, 1, none⟩ = some (.int .i64 o.th) := by rw [cell_of ho]; rfl
  have r2 : w.cell? ⟨rb, 2, none⟩ = some (.int .i64 (o.ht : Int)) := by rw [cell_of ho]; rfl
  have r5 : w.cell? ⟨rb, 5, none⟩ = some (.int .u8 8) := by rw [cell_of ho, ← hp]; rfl
  have r6 : w.cell? ⟨rb, 6, none⟩ = some (.int .u64 o.w) := by rw [cell_of ho]; rfl
  have rz := lt_of_block ho
  obtain ⟨p0, p1, p2, p3, p4, pz⟩ := h.cells
  have hl : RLC w l c := h.lay.1
  have l21 := hl.c21
  have l22 := hl.c22
  have lz := hl.lt
  have ht6 := hg.h6
  have ht1 := hg.h1
  have HNT := hid hok.nT
  obtain ⟨ow0, ow1⟩ := hg.gw (by omega)
  obtain ⟨tw1, tw2⟩ := hg.gv hgv
  have HTW := hid (And.intro tw1 tw2)
  have htn := hok.nT
  have hpl : c.pools ≤ 65536 := by have := rl_words hok; obtain ⟨a1, a2, a3, a4, a5, a6, a7, a8, a9⟩ := plc_lt c; omega
  have hlk : c.links ≤ 65536 := by have := rl_words hok; obtain ⟨a1, a2, a3, a4, a5, a6, a7, a8, a9⟩ := plc_lt c; omega
  have w1' : IntKind.i64.wrap ((c.pools : Int) + (o.ht : Int)) = (c.pools : Int) + (o.ht : Int) := by rw [IntKind.wrap_i64]; omega
  have w3' : IntKind.i64.wrap ((c.links : Int) - 1) = (c.links : Int) - 1 := by rw [IntKind.wrap_i64]; omega
  have hat : o.at c = c.pools + o.ht - 1 := by unfold PO.at; rw [if_neg (by omega)]
  obtain ⟨AD, hAD⟩ : ∃ AD : Int, AD = (c.pools : Int) + (o.ht : Int) - 1 := ⟨_, rfl⟩
  have w2' : IntKind.i64.wrap ((c.pools : Int) + (o.ht : Int) - 1) = AD := by rw [hAD, IntKind.wrap_i64]; omega
  have HATE := hid (show ((o.at c : Nat) : Int) = AD by rw [hat, hAD]; omega)
  have HX := hid (show s.ws[AD.toNat]? = some x from by rw [show AD.toNat = o.at c by rw [hat]; omega]; exact hx)
  have HX0 := hid (show 0 ≤ AD by omega)
  have HADN := hid (show AD.toNat = o.at c by rw [hat]; omega)
  have HOW := hid (And.intro ow0 ow1)
  have wt : IntKind.u64.wrap (o.w / 65536 + 1) = o.w / 65536 + 1 := by rw [IntKind.wrap_u64]; omega
  have HTG := hid (show 0 ≤ o.w / 65536 + 1 ∧ o.w / 65536 + 1 ≤ 1099511627775 ∧ o.w < 18446744073709551616 by omega)
  have HBL := hid (show 0 ≤ o.tw ∧ o.tw ≤ 1024 by omega)
  have HTR := hid (show o.twR = o.tw from by unfold PO.twR; rw [if_pos hgv])
  obtain ⟨NW, hNW⟩ : ∃ NW : Int, NW = o.tw + 65536 * (o.w / 65536 + 1) := ⟨_, rfl⟩
  have HNW := hid hNW
  have HNWE := hid (show o.nw = NW from by unfold PO.nw; rw [hNW, if_pos hgv])
  have HSE := hid (show S' = { s with log := s.log ++ [⟨o.th, AD, 4, x, x, false⟩] } from by rw [HS.out]; unfold PO.st; rw [if_neg (by omega), if_neg (by omega), if_neg hne, HATE.out])
  have HOE := hid (show O' = { o with pc := 4 } from by rw [HO.out]; unfold PO.op; rw [if_neg (by omega), if_neg (by omega), if_neg (by omega), if_neg hne, if_pos hgv])
  have HXE := hid hne
  clear hne hNW
  clear h ho nA hg hl hat hpl hlk hx hS hO hp ht6 ht1 hgv tw1 tw2 htn hAD
  go_enter Tryz.func91, Tryz.ntmps91
  go_wp2
  go_quiet (fail)
  obtain ⟨W, hW⟩ : ∃ W, W = w.drewN nq := ⟨_, rfl⟩
  rw [← hW]
  have HK := hid (show Keep Nil w W from hW ▸ (Keep.refl Nil w).drewN _)
  have HQ := hid (H.out.quiet HK.out)
  have HRQ := hid (show RRunAt W rb pb o from HK.out.at HR.out (fun h => h))
  have r1 := HK.out.cell r1 (fun h => h)
  have r6 := HK.out.cell r6 (fun h => h)
  have r3 : W.cell? ⟨rb, 3, none⟩ = some (.int .i64 o.twR) := by rw [cell_of HRQ.out]; rfl
  have r7 : W.cell? ⟨rb, 7, none⟩ = some (.int .u64 o.bl) := by rw [cell_of HRQ.out]; rfl
  have rz : rb < W.heap.size := by have := HK.out.size; omega
  clear hW r0 r2 r5 p0 p1 p2 p3 p4 pz l21 l22 lz
  go_wp2_with fail
  refine (r1tower o.w ow0).mono ?_
  rintro e w2 ⟨rfl, rfl⟩
  rw [HTR.out] at r3
  go_wp2
  go_quiet (first | (go_at_call 134; exact quiet_eq (r1tag o.w HOW.out.1 HTG.out.2.2)) | (go_at_call 133; exact quiet_eq (r1top (o.w / 65536 + 1) o.tw HTG.out.1 HTG.out.2.1 HBL.out.1 HBL.out.2)))
  obtain ⟨U, hU⟩ : ∃ U, U = W.drewN nq := ⟨_, rfl⟩
  rw [← hU]
  have KU := hid (show Keep Nil W U from hU ▸ (Keep.refl Nil W).drewN _)
  have HRU := hid (show RRunAt U rb pb o from KU.out.at HRQ.out (fun h => h))
  have HQU := hid (HQ.out.quiet KU.out)
  have r1 : U.cell? ⟨rb, 1, none⟩ = some (.int .i64 o.th) := by rw [cell_of HRU.out]; rfl
  have r5 : U.cell? ⟨rb, 5, none⟩ = some (.int .u8 o.pc) := by rw [cell_of HRU.out]; rfl
  have f5 : U.frozen? ⟨rb, 5, none⟩ = false := free_of HRU.out 5
  have r6 : U.cell? ⟨rb, 6, none⟩ = some (.int .u64 o.w) := by rw [cell_of HRU.out]; rfl
  have rz : rb < U.heap.size := lt_of_block HRU.out
  rw [← HNW.out]
  clear hU r3 r7
  go_upto_region 32 with fail
  obtain ⟨V, hV⟩ : ∃ V, V = U.setCell ⟨rb, 5, none⟩ (.int .u8 4) := ⟨_, rfl⟩
  rw [← hV]
  have KV := hid (show Keep (fun k => k = rb) U V from hV ▸ kone14)
  have HRV := hid (show RRunAt V rb pb { o with pc := 4 } from by
    rw [hV]
    refine (set_same HRU.out (i := 5) (.int .u8 4)).trans ?_
    unfold rrCells PO.twR PO.got
    simp [HGV.out])
  have HQV := hid (HQU.out.keep KV.out (fun k hk e => HA.out (by have e2 : k = rb := e; rw [← e2]; exact hk)))
  have r1 : V.cell? ⟨rb, 1, none⟩ = some (.int .i64 o.th) := by rw [cell_of HRV.out]; rfl
  have r6 : V.cell? ⟨rb, 6, none⟩ = some (.int .u64 o.w) := by rw [cell_of HRV.out]; rfl
  have rz : rb < V.heap.size := lt_of_block HRV.out
  clear hV r5 f5
  have KD := hid ((Keep.refl Nil V).drew)
  go_region_held3 (fun w' => w'.cell? ⟨rb, 1, none⟩ = some (.int .i64 o.th) ∧ w'.cell? ⟨rb, 6, none⟩ = some (.int .u64 o.w)) (first | (exact s9; done) | go_keep)
    (first
      | (go_at_call 104; (with_reducible refine (rcas_no (HQV.out.quiet KD.out).mem o.th AD x o.w NW HG.out.t0 HG.out.t1 HX0.out HX.out HXE.out (by have := HG.out.lg; omega)).mono ?_); rintro e w10 ⟨rfl, hto⟩; have hq := KQ.of (HQV.out.quiet KD.out) (KD.out.at HRV.out (fun h => h)) HA.out hto; have s9 : w10.cell? ⟨rb, 1, none⟩ = some (.int .i64 o.th) ∧ w10.cell? ⟨rb, 6, none⟩ = some (.int .u64 o.w) := ⟨(by rw [cell_of hq.choose_spec.choose_spec.at_]; rfl), (by rw [cell_of hq.choose_spec.choose_spec.at_]; rfl)⟩; have HKX := hid hq; clear hto hq))
  obtain ⟨A1, F1, hkq⟩ := HKX.out
  have HKQ := hid hkq
  clear hkq HKX
  have r0 : w10.cell? ⟨rb, 0, none⟩ = some (.pointer (some ⟨pb, 0, none⟩)) := by rw [cell_of HKQ.out.at_]; rfl
  have r3 : w10.cell? ⟨rb, 3, none⟩ = some (.int .i64 o.twR) := by rw [cell_of HKQ.out.at_]; rfl
  have r4 : w10.cell? ⟨rb, 4, none⟩ = some (.int .i64 o.tr) := by rw [cell_of HKQ.out.at_]; rfl
  have r5 : w10.cell? ⟨rb, 5, none⟩ = some (.int .u8 4) := by rw [cell_of HKQ.out.at_]; rfl
  have r7 : w10.cell? ⟨rb, 7, none⟩ = some (.int .u64 o.bl) := by rw [cell_of HKQ.out.at_]; rfl
  have r9 : w10.cell? ⟨rb, 9, none⟩ = some (.int .i64 o.fl) := by rw [cell_of HKQ.out.at_]; rfl
  have r10 : w10.cell? ⟨rb, 10, none⟩ = some (.int .i64 o.e) := by rw [cell_of HKQ.out.at_]; rfl
  have fr : ∀ i, w10.frozen? ⟨rb, i, none⟩ = false := fun i => free_of HKQ.out.at_ i
  have f5 := fr 5
  have f7 := fr 7
  have f8 := fr 8
  have f9 := fr 9
  have f10 := fr 10
  have rz : rb < w10.heap.size := lt_of_block HKQ.out.at_
  clear fr
  have HK2 := hid (HK.out.trans KU.out (fun _ _ h => h))
  have HK3 := hid (show Keep (fun k => k = rb) U w10 ∨ True from .inr trivial)
  go_wp2
  go_quiet (fail)
  go_wp2
  go_ret2
  refine R14To.pre HK2.out ?_
  rw [HSE.out, HOE.out]
  refine R14To.pre2 (KV.out.trans (KD.out.mono (T := fun k => k = rb) (fun _ _ h => h.elim)) (fun _ _ h => h)) ?_
  exact HKQ.out.done (((Keep.refl Nil _).drewN nq).at HKQ.out.at_ (fun h => h)) ((Keep.refl _ _).drewN nq)
set_option maxRecDepth 100000 in
set_option maxHeartbeats 8000000 in
theorem r14step_8y (h : RPA w A c pb mb l tb vb gb F G s) (ho : RRunAt w rb pb o) (nA : ¬ A rb) (hok : c.ok) (hg : RGo c s o x) (hp : o.pc = 8) (hgv : o.gv = true) (hne : x = o.w) (hx : s.ws[o.at c]? = some x) : Calls Tryz.prog 91 #[.pointer (some ⟨rb, 0, none⟩)] w (R14To w A c pb mb l rb (o.st c s x) (o.op x) o.pc) := by
  obtain ⟨S', hS⟩ : ∃ S', S' = o.st c s x := ⟨_, rfl⟩
  obtain ⟨O', hO⟩ : ∃ O', O' = o.op x := ⟨_, rfl⟩
  rw [← hS, ← hO, hp]
  have HS := hid hS
  have HO := hid hO
  have H := hid h
  have HR := hid ho
  have HG := hid hg
  have HA := hid nA
  have HGV := hid hgv
  have HP4 := hid hp
  have d0 : (o.pc == 0) = false := beq_eq_false_iff_ne.2 (by omega)
  have r0 : w.cell? ⟨rb, 0, none⟩ = some (.pointer (some ⟨pb, 0, none⟩)) := by rw [cell_of ho]; rfl
  have r1 : w.cell? ⟨rb, 1, none⟩ = some (.int .i64 o.th) := by rw [cell_of ho]; rfl
  have r2 : w.cell? ⟨rb, 2, none⟩ = some (.int .i64 (o.ht : Int)) := by rw [cell_of ho]; rfl
  have r5 : w.cell? ⟨rb, 5, none⟩ = some (.int .u8 8) := by rw [cell_of ho, ← hp]; rfl
  have r6 : w.cell? ⟨rb, 6, none⟩ = some (.int .u64 o.w) := by rw [cell_of ho]; rfl
  have rz := lt_of_block ho
  obtain ⟨p0, p1, p2, p3, p4, pz⟩ := h.cells
  have hl : RLC w l c := h.lay.1
  have l21 := hl.c21
  have l22 := hl.c22
  have lz := hl.lt
  have ht6 := hg.h6
  have ht1 := hg.h1
  have HNT := hid hok.nT
  obtain ⟨ow0, ow1⟩ := hg.gw (by omega)
  obtain ⟨tw1, tw2⟩ := hg.gv hgv
  have HTW := hid (And.intro tw1 tw2)
  have htn := hok.nT
  have hpl : c.pools ≤ 65536 := by have := rl_words hok; obtain ⟨a1, a2, a3, a4, a5, a6, a7, a8, a9⟩ := plc_lt c; omega
  have hlk : c.links ≤ 65536 := by have := rl_words hok; obtain ⟨a1, a2, a3, a4, a5, a6, a7, a8, a9⟩ := plc_lt c; omega
  have w1' : IntKind.i64.wrap ((c.pools : Int) + (o.ht : Int)) = (c.pools : Int) + (o.ht : Int) := by rw [IntKind.wrap_i64]; omega
  have w3' : IntKind.i64.wrap ((c.links : Int) - 1) = (c.links : Int) - 1 := by rw [IntKind.wrap_i64]; omega
  have hat : o.at c = c.pools + o.ht - 1 := by unfold PO.at; rw [if_neg (by omega)]
  obtain ⟨AD, hAD⟩ : ∃ AD : Int, AD = (c.pools : Int) + (o.ht : Int) - 1 := ⟨_, rfl⟩
  have w2' : IntKind.i64.wrap ((c.pools : Int) + (o.ht : Int) - 1) = AD := by rw [hAD, IntKind.wrap_i64]; omega
  have HATE := hid (show ((o.at c : Nat) : Int) = AD by rw [hat, hAD]; omega)
  have HX := hid (show s.ws[AD.toNat]? = some x from by rw [show AD.toNat = o.at c by rw [hat]; omega]; exact hx)
  have HX0 := hid (show 0 ≤ AD by omega)
  have HADN := hid (show AD.toNat = o.at c by rw [hat]; omega)
  have HOW := hid (And.intro ow0 ow1)
  have wt : IntKind.u64.wrap (o.w / 65536 + 1) = o.w / 65536 + 1 := by rw [IntKind.wrap_u64]; omega
  have HTG := hid (show 0 ≤ o.w / 65536 + 1 ∧ o.w / 65536 + 1 ≤ 1099511627775 ∧ o.w < 18446744073709551616 by omega)
  have HBL := hid (show 0 ≤ o.tw ∧ o.tw ≤ 1024 by omega)
  have HTR := hid (show o.twR = o.tw from by unfold PO.twR; rw [if_pos hgv])
  obtain ⟨NW, hNW⟩ : ∃ NW : Int, NW = o.tw + 65536 * (o.w / 65536 + 1) := ⟨_, rfl⟩
  have HNW := hid hNW
  have HNWE := hid (show o.nw = NW from by unfold PO.nw; rw [hNW, if_pos hgv])
  obtain ⟨ho1, g, hgg, g0, g9⟩ := hg.g8 hp
  have HSE := hid (show S' = { ws := s.ws.set (o.at c) NW, log := s.log ++ [⟨o.th, AD, 4, o.w, NW, true⟩], out := pup s.out o.tw none, gens := s.gens.set (o.tw.toNat - 1) (g + 1) } from by rw [HS.out]; unfold PO.st; rw [if_neg (by omega), if_neg (by omega), if_pos hne, HATE.out, HNWE.out, hgv, hne, hgg]; rfl)
  have HOE := hid (show O' = { o with pc := 0 } from by rw [HO.out]; unfold PO.op; rw [if_neg (by omega), if_neg (by omega), if_neg (by omega), if_pos hne])
  have HXE := hid hne
  obtain ⟨TN, hTN⟩ : ∃ TN : Nat, (TN : Int) + 1 = o.tw := ⟨(o.tw - 1).toNat, by omega⟩
  have HTN := hid hTN
  have HGG := hid (show s.gens[TN]? = some g by rw [show TN = o.tw.toNat - 1 by omega]; exact hgg)
  have wg : IntKind.i64.wrap (g + 1) = g + 1 := by rw [IntKind.wrap_i64]; omega
  have ot0 : 0 ≤ o.tw := by omega
  have ot1 : o.tw < (c.nT : Int) + 1 := by omega
  clear hgg ho1 hTN g0 g9
  clear hne hNW
  clear h ho nA hg hl hat hpl hlk hx hS hO hp ht6 ht1 hgv tw1 tw2 htn hAD
  go_enter Tryz.func91, Tryz.ntmps91
  go_wp2
  go_quiet (fail)
  obtain ⟨W, hW⟩ : ∃ W, W = w.drewN nq := ⟨_, rfl⟩
  rw [← hW]
  have HK := hid (show Keep Nil w W from hW ▸ (Keep.refl Nil w).drewN _)
  have HQ := hid (H.out.quiet HK.out)
  have HRQ := hid (show RRunAt W rb pb o from HK.out.at HR.out (fun h => h))
  have r1 := HK.out.cell r1 (fun h => h)
  have r6 := HK.out.cell r6 (fun h => h)
  have r3 : W.cell? ⟨rb, 3, none⟩ = some (.int .i64 o.twR) := by rw [cell_of HRQ.out]; rfl
  have r7 : W.cell? ⟨rb, 7, none⟩ = some (.int .u64 o.bl) := by rw [cell_of HRQ.out]; rfl
  have rz : rb < W.heap.size := by have := HK.out.size; omega
  clear hW r0 r2 r5 p0 p1 p2 p3 p4 pz l21 l22 lz
  go_wp2_with fail
  refine (r1tower o.w ow0).mono ?_
  rintro e w2 ⟨rfl, rfl⟩
  rw [HTR.out] at r3
  go_wp2
  go_quiet (first | (go_at_call 134; exact quiet_eq (r1tag o.w HOW.out.1 HTG.out.2.2)) | (go_at_call 133; exact quiet_eq (r1top (o.w / 65536 + 1) o.tw HTG.out.1 HTG.out.2.1 HBL.out.1 HBL.out.2)))
  obtain ⟨U, hU⟩ : ∃ U, U = W.drewN nq := ⟨_, rfl⟩
  rw [← hU]
  have KU := hid (show Keep Nil W U from hU ▸ (Keep.refl Nil W).drewN _)
  have HRU := hid (show RRunAt U rb pb o from KU.out.at HRQ.out (fun h => h))
  have HQU := hid (HQ.out.quiet KU.out)
  have r1 : U.cell? ⟨rb, 1, none⟩ = some (.int .i64 o.th) := by rw [cell_of HRU.out]; rfl
  have r5 : U.cell? ⟨rb, 5, none⟩ = some (.int .u8 o.pc) := by rw [cell_of HRU.out]; rfl
  have f5 : U.frozen? ⟨rb, 5, none⟩ = false := free_of HRU.out 5
  have r6 : U.cell? ⟨rb, 6, none⟩ = some (.int .u64 o.w) := by rw [cell_of HRU.out]; rfl
  have rz : rb < U.heap.size := lt_of_block HRU.out
  rw [← HNW.out]
  clear hU r3 r7
  go_upto_region 32 with fail
  obtain ⟨V, hV⟩ : ∃ V, V = U.setCell ⟨rb, 5, none⟩ (.int .u8 4) := ⟨_, rfl⟩
  rw [← hV]
  have KV := hid (show Keep (fun k => k = rb) U V from hV ▸ kone14)
  have HRV := hid (show RRunAt V rb pb { o with pc := 4 } from by
    rw [hV]
    refine (set_same HRU.out (i := 5) (.int .u8 4)).trans ?_
    unfold rrCells PO.twR PO.got
    simp [HGV.out])
  have HQV := hid (HQU.out.keep KV.out (fun k hk e => HA.out (by have e2 : k = rb := e; rw [← e2]; exact hk)))
  have r1 : V.cell? ⟨rb, 1, none⟩ = some (.int .i64 o.th) := by rw [cell_of HRV.out]; rfl
  have r6 : V.cell? ⟨rb, 6, none⟩ = some (.int .u64 o.w) := by rw [cell_of HRV.out]; rfl
  have rz : rb < V.heap.size := lt_of_block HRV.out
  clear hV r5 f5
  have KD := hid ((Keep.refl Nil V).drew)
  go_region_held3 (fun w' => w'.cell? ⟨rb, 1, none⟩ = some (.int .i64 o.th) ∧ w'.cell? ⟨rb, 6, none⟩ = some (.int .u64 o.w)) (first | (exact s9; done) | go_keep)
    (first
      | (go_at_call 104; (with_reducible refine (rcas_yes (HQV.out.quiet KD.out).mem o.th AD o.w NW HG.out.t0 HG.out.t1 HX0.out (by have := HX.out; rw [HXE.out] at this; exact this) (by have := HG.out.lg; omega)).mono ?_); rintro e w10 ⟨rfl, hto⟩; have hq := KQ.of (HQV.out.quiet KD.out) (KD.out.at HRV.out (fun h => h)) HA.out hto; have s9 : w10.cell? ⟨rb, 1, none⟩ = some (.int .i64 o.th) ∧ w10.cell? ⟨rb, 6, none⟩ = some (.int .u64 o.w) := ⟨(by rw [cell_of hq.choose_spec.choose_spec.at_]; rfl), (by rw [cell_of hq.choose_spec.choose_spec.at_]; rfl)⟩; have HKX := hid hq; clear hto hq))
  obtain ⟨A1, F1, hkq⟩ := HKX.out
  rw [HADN.out] at hkq
  have HKQ := hid hkq
  clear hkq HKX
  have r0 : w10.cell? ⟨rb, 0, none⟩ = some (.pointer (some ⟨pb, 0, none⟩)) := by rw [cell_of HKQ.out.at_]; rfl
  have r3 : w10.cell? ⟨rb, 3, none⟩ = some (.int .i64 o.twR) := by rw [cell_of HKQ.out.at_]; rfl
  have r4 : w10.cell? ⟨rb, 4, none⟩ = some (.int .i64 o.tr) := by rw [cell_of HKQ.out.at_]; rfl
  have r5 : w10.cell? ⟨rb, 5, none⟩ = some (.int .u8 4) := by rw [cell_of HKQ.out.at_]; rfl
  have r7 : w10.cell? ⟨rb, 7, none⟩ = some (.int .u64 o.bl) := by rw [cell_of HKQ.out.at_]; rfl
  have r9 : w10.cell? ⟨rb, 9, none⟩ = some (.int .i64 o.fl) := by rw [cell_of HKQ.out.at_]; rfl
  have r10 : w10.cell? ⟨rb, 10, none⟩ = some (.int .i64 o.e) := by rw [cell_of HKQ.out.at_]; rfl
  have fr : ∀ i, w10.frozen? ⟨rb, i, none⟩ = false := fun i => free_of HKQ.out.at_ i
  have f5 := fr 5
  have f7 := fr 7
  have f8 := fr 8
  have f9 := fr 9
  have f10 := fr 10
  have rz : rb < w10.heap.size := lt_of_block HKQ.out.at_
  clear fr
  have HK2 := hid (HK.out.trans KU.out (fun _ _ h => h))
  have HK3 := hid (show Keep (fun k => k = rb) U w10 ∨ True from .inr trivial)
  obtain ⟨q0, q1, q2, q3, q4, qz⟩ := HKQ.out.pa.cells
  have htn : TN + 1 ≤ c.nT := by have := HTN.out; have := HTW.out; omega
  obtain ⟨tk, tf, tz⟩ := HKQ.out.pa.tk (t := TN + 1) htn
  obtain ⟨vk, vf, vz⟩ := HKQ.out.pa.gv (t := TN + 1) htn
  obtain ⟨gk, gf, gz⟩ := HKQ.out.pa.gn HGG.out
  have hA1 : ∀ k, k = pb ∨ k = tb ∨ k = vb ∨ k = gb → k ≠ rb := fun k hk e => HKQ.out.nA (by rw [← e]; exact (HKQ.out.pa.foot k).2 (by rcases hk with h | h | h | h <;> simp [h]))
  have x1 := hA1 pb (.inl rfl)
  have x2 := hA1 tb (.inr (.inl rfl))
  have x3 := hA1 vb (.inr (.inr (.inl rfl)))
  have x4 := hA1 gb (.inr (.inr (.inr rfl)))
  obtain ⟨n1, n2, n3, n4, n5, n6⟩ := HKQ.out.pa.ne
  have HNE := hid (And.intro x1 (And.intro x2 (And.intro x3 x4)))
  rw [HTR.out, ← HTN.out] at r3
  rw [← HTN.out] at ot0 ot1
  go_upto_region 35 with fail
  obtain ⟨X, hX⟩ : ∃ X, X = w10.setCell ⟨rb, 5, none⟩ (.int .u8 0) := ⟨_, rfl⟩
  rw [← hX]
  have KX := hid (show Keep (fun k => k = rb) w10 X from hX ▸ kone14)
  have RX := hid (show RRunAt X rb pb { o with pc := 0 } from by
    rw [hX]
    refine (set_same HKQ.out.at_ (i := 5) (.int .u8 0)).trans ?_
    unfold rrCells PO.twR PO.got
    simp [HGV.out])
  have PX := hid (HKQ.out.pa.keep KX.out (fun k hk e => HKQ.out.nA (by have e2 : k = rb := e; rw [← e2]; exact hk)))
  clear hX r0 r3 r4 r5 r7 r9 r10 f5 f7 f8 f9 f10 rz q0 q1 q2 q3 q4 qz tk tf tz vk vf vz gk gf gz hA1
  obtain ⟨q0, q1, q2, q3, q4, qz⟩ := PX.out.cells
  obtain ⟨tk, tf, tz⟩ := PX.out.tk (t := TN + 1) htn
  obtain ⟨vk, vf, vz⟩ := PX.out.gv (t := TN + 1) htn
  have r0 : X.cell? ⟨rb, 0, none⟩ = some (.pointer (some ⟨pb, 0, none⟩)) := by rw [cell_of RX.out]; rfl
  have r3 : X.cell? ⟨rb, 3, none⟩ = some (.int .i64 ((TN : Int) + 1)) := by rw [cell_of RX.out]; exact congrArg (fun z => some (Value.int .i64 z)) (show PO.twR { o with pc := 0 } = (TN : Int) + 1 from HTR.out.trans HTN.out.symm)
  have rz : rb < X.heap.size := lt_of_block RX.out
  go_region
  obtain ⟨Y, hY⟩ : ∃ Y, Y = ((X.setCell ⟨tb, TN + 1, none⟩ (.bool false)).setCell ⟨vb, TN + 1, none⟩ (.bool false)).drew := ⟨_, rfl⟩
  rw [← hY]
  have hTC : ((TN + 1 : Nat) : Int) = o.tw := HTN.out
  have KY := hid (show Keep (fun k => k = tb ∨ k = vb ∨ k = gb) X Y from hY ▸ (((Keep.refl (fun k => k = tb ∨ k = vb ∨ k = gb) X).setCell (p := ⟨tb, TN + 1, none⟩) (.inl (.inl rfl)) _).setCell (p := ⟨vb, TN + 1, none⟩) (.inl (.inr (.inl rfl))) _).drew)
  have PY := hid (PX.out.rows KY.out (out' := pup s.out o.tw none) (g' := s.gens) (by
    rw [hY]
    have h0 := ((Keep.refl Nil _).drew).at (set_other (set_same PX.out.taken (i := TN + 1) (.bool false)) (p := ⟨vb, TN + 1, none⟩) n4 (.bool false)) (fun h => h)
    rw [h0, boolsB_set]
    have := @takenL_set c.nT (TN + 1) s.out none
    rw [hTC] at this
    rw [← this]; rfl) (by
    rw [hY]
    have h0 := ((Keep.refl Nil _).drew).at (set_same (set_other PX.out.giving (p := ⟨tb, TN + 1, none⟩) (Ne.symm n4) (.bool false)) (i := TN + 1) (.bool false)) (fun h => h)
    rw [h0, boolsB_set]
    have := @givingL_set c.nT (TN + 1) s.out none
    rw [hTC] at this
    rw [← this]; rfl) (by
    rw [hY]
    exact ((Keep.refl Nil _).drew).at (set_other (set_other PX.out.gens (p := ⟨tb, TN + 1, none⟩) (Ne.symm n5) (.bool false)) (p := ⟨vb, TN + 1, none⟩) (Ne.symm n6) (.bool false)) (fun h => h)) PX.out.gl)
  have RY := hid (show RRunAt Y rb pb { o with pc := 0 } from KY.out.at RX.out (fun e => by rcases e with e | e | e <;> omega))
  clear hY r0 r3 rz q0 q1 q2 q3 q4 qz tk tf tz vk vf vz
  obtain ⟨q0, q1, q2, q3, q4, qz⟩ := PY.out.cells
  obtain ⟨gk, gf, gz⟩ := PY.out.gn (t := TN) HGG.out
  have r0 : Y.cell? ⟨rb, 0, none⟩ = some (.pointer (some ⟨pb, 0, none⟩)) := by rw [cell_of RY.out]; rfl
  have r3 : Y.cell? ⟨rb, 3, none⟩ = some (.int .i64 ((TN : Int) + 1)) := by rw [cell_of RY.out]; exact congrArg (fun z => some (Value.int .i64 z)) (show PO.twR { o with pc := 0 } = (TN : Int) + 1 from HTR.out.trans HTN.out.symm)
  have rz : rb < Y.heap.size := lt_of_block RY.out
  go_upto_region 36 with fail
  go_region
  obtain ⟨Z, hZ⟩ : ∃ Z, Z = (Y.setCell ⟨gb, TN + 1, none⟩ (.int .i64 (g + 1))).drew := ⟨_, rfl⟩
  rw [← hZ]
  have KZ := hid (show Keep (fun k => k = tb ∨ k = vb ∨ k = gb) Y Z from hZ ▸ ((Keep.refl (fun k => k = tb ∨ k = vb ∨ k = gb) Y).setCell (p := ⟨gb, TN + 1, none⟩) (.inl (.inr (.inr rfl))) _).drew)
  have PZ := hid (PY.out.rows KZ.out (out' := pup s.out o.tw none) (g' := s.gens.set TN (g + 1)) (by
    rw [hZ]
    exact ((Keep.refl Nil _).drew).at (set_other PY.out.taken (p := ⟨gb, TN + 1, none⟩) n5 (.int .i64 (g + 1))) (fun h => h)) (by
    rw [hZ]
    exact ((Keep.refl Nil _).drew).at (set_other PY.out.giving (p := ⟨gb, TN + 1, none⟩) n6 (.int .i64 (g + 1))) (fun h => h)) (by
    rw [hZ]
    have h0 := ((Keep.refl Nil _).drew).at (set_same PY.out.gens (i := TN + 1) (.int .i64 (g + 1))) (fun h => h)
    rw [h0, intsR_set]
    rfl) (by rw [List.length_set]; exact PY.out.gl))
  have RZ := hid (show RRunAt Z rb pb { o with pc := 0 } from KZ.out.at RY.out (fun e => by rcases e with e | e | e <;> omega))
  clear hZ r0 r3 rz q0 q1 q2 q3 q4 qz gk gf gz
  have r5 : Z.cell? ⟨rb, 5, none⟩ = some (.int .u8 0) := by rw [cell_of RZ.out]; rfl
  have rz : rb < Z.heap.size := lt_of_block RZ.out
  go_wp2
  go_quiet (fail)
  go_wp2
  go_ret2
  refine R14To.pre HK2.out ?_
  refine R14To.pre2 (KV.out.trans (KD.out.mono (T := fun k => k = rb) (fun _ _ h => h.elim)) (fun _ _ h => h)) ?_
  have hte : o.tw.toNat - 1 = TN := by have := HTN.out; omega
  rw [HSE.out, HOE.out, hte]
  have kAll : Keep (fun k => k = rb ∨ k = tb ∨ k = vb ∨ k = gb) w10 Z := ((KX.out.mono (T := fun k => k = rb ∨ k = tb ∨ k = vb ∨ k = gb) (fun _ _ h => .inl h)).trans (KY.out.mono (T := fun k => k = rb ∨ k = tb ∨ k = vb ∨ k = gb) (fun _ _ h => .inr h)) (fun _ _ h => h)).trans (KZ.out.mono (T := fun k => k = rb ∨ k = tb ∨ k = vb ∨ k = gb) (fun _ _ h => .inr h)) (fun _ _ h => h)
  exact HKQ.out.done2 (PZ.out.quiet ((Keep.refl Nil _).drewN nq)) (((Keep.refl Nil _).drewN nq).at RZ.out (fun h => h)) (kAll.drewN nq)
end
end Go.Proofs.YtjghenomeindcaaGreat
