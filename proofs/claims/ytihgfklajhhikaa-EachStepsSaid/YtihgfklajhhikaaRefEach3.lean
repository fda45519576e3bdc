/- leapfrogref17: a step of a wait: contract. -/
import Derived.Test.YtihgfklajhhikaaRefEach2
import Derived.Test.YtihgfklajhhikaaEachAct3
namespace Go.Lf
/-- The number that the reference's wait remembers behind a step at x. -/
def EWS.rnext (s : EWS) (x rs : Int) : Int := if s.st = 0 ∧ x % 2 = 1 then x else rs
end Go.Lf
namespace Go.Proofs.Ytihgfklajhhikaa
open Go.RowKit Go.Lf
section
variable {w : World} {h sb rb : Nat} {G : Nat → Prop} {base : Int} {sl : List (Int × Bool × Bool)} {ws : List Int} {log : List Acc} {wb : Nat} {t x rs set : Int} {s : EWS}
/-- The reference's wait has made a step. -/
def RFWStepTo (w : World) (h sb rb : Nat) (G : Nat → Prop) (base : Int) (sl : List (Int × Bool × Bool)) (ws : List Int) (log : List Acc) (wb : Nat) (t set pc : Int) (s : EWS) (rs : Int) (e : Ending) (w' : World) : Prop :=
  e = .returned (.tuple #[.int .u8 pc, .bool (s.st == 3)]) ∧ ∃ G', RSys w' h sb rb G' base sl ws log ∧ RWaitAt w' wb h t set s rs ∧ Keep (fun k => G k ∨ k = wb) w w' ∧ Foot w G G' ∧ ¬ G' wb
theorem rfw_mk {w1 w2 : World} {G1 : Nat → Prop} {log' : List Acc} {s' : EWS} {rs' pc : Int} (hs : RSys w h sb rb G base sl ws log) (hw : RWaitAt w wb h t set s rs) (hF : ¬ G wb) (m1 : RefAt w1 rb G1 ws log') (k1 : Keep G w.drew w1) (f1 : Foot w.drew G G1) (l2 : RWaitAt w2 wb h t set s' rs') (k2 : Keep (fun k => k = wb) w1 w2) :
    RFWStepTo w h sb rb G base sl ws log' wb t set pc s' rs' (.returned (.tuple #[.int .u8 pc, .bool (s'.st == 3)])) w2 := by
  have lw := lt_of_block hw
  have e1 : wb ≠ h := type_ne hw hs.eng.head (by decide)
  have e2 : wb ≠ sb := type_ne hw hs.eng.slots (by decide)
  have n1 : ∀ b : Nat, ¬ G b → b < w.heap.size → ¬ G1 b := fun b hb hl hF' => (f1 b hF').elim hb (fun h => by simp at h; omega)
  have nw := n1 wb hF lw
  have k0 : Keep G w w1 := ((Keep.refl G w).drew).trans k1 (fun _ _ h => h)
  refine ⟨rfl, G1, ⟨m1.keep k2 (fun k hk e => nw (by rw [← e]; exact hk)), (hs.eng.keep k0 hs.f1 hs.f2).keep k2 (fun e => e1 e.symm) (fun e => e2 e.symm), n1 h hs.f1 (lt_of_block hs.eng.head), n1 sb hs.f2 (lt_of_block hs.eng.slots)⟩, l2, ?_, fun k hk => (f1 k hk).elim .inl (fun h => .inr (by simpa using h)), nw⟩
  exact (k0.mono (T := fun k => G k ∨ k = wb) (fun _ _ h => .inl h)).trans (k2.mono (T := fun k => G k ∨ k = wb) (fun _ _ h => .inr h)) (fun _ _ h => h)
theorem ewpc_lt {k : Nat} (h : k < 3) : ewpc k = if k = 1 then 18 else 17 := by
  have : k = 0 ∨ k = 1 ∨ k = 2 := by omega
  rcases this with rfl | rfl | rfl <;> rfl

set_option maxRecDepth 100000 in
set_option maxHeartbeats 8000000 in
theorem rfwait_look (hs : RSys w h sb rb G base sl ws log) (hw : RWaitAt w wb h t set s rs) (hF : ¬ G wb) (hp : s.pos < 1000000) (hst : s.st = 0) (x : Int) (x0 : 0 ≤ x) (t0 : 0 ≤ t) (t1 : t < 64) (b0 : 0 ≤ base) (b1 : base < 1000000) (hx : ws[(base + 2 * s.pos).toNat]? = some x) (hlog : log.length < 1000000000000) :
    Calls Try.prog 87 #[.pointer (some ⟨wb, 0, none⟩)] w (RFWStepTo w h sb rb G base sl ws (log ++ [⟨t, base + 2 * s.pos, 1, x, x, false⟩]) wb t set 17 (s.step sl.length set x) (s.rnext x rs)) := by
  obtain ⟨c0, c1, c2, c3, c4, c5, c6⟩ := hw.cells
  obtain ⟨k0, k1, k2⟩ := hs.eng.cells
  have hw1 : IntKind.i64.wrap (2 * (s.pos : Int)) = 2 * s.pos := by rw [IntKind.wrap_i64]; omega
  have hw2 : IntKind.i64.wrap (base + 2 * s.pos) = base + 2 * s.pos := by rw [IntKind.wrap_i64]; omega
  have hw3 : IntKind.i64.wrap (base + 2 * s.pos + 1) = base + 2 * s.pos + 1 := by rw [IntKind.wrap_i64]; omega
  have hwp : IntKind.i64.wrap ((s.pos : Int) + 1) = (s.pos : Int) + 1 := by rw [IntKind.wrap_i64]; omega
  have HW := hid hw
  have H := hid hs
  have HB := hid hF
  have HX := hid hx
  have KD := hid ((Keep.refl Nil w).drew)
  have hnx := rfwnext hw
  rw [hst] at hnx
  have NX := hid (show Calls Try.prog 85 #[.pointer (some ⟨wb, 0, none⟩)] w fun e w' => e = .returned (.int .u8 17) ∧ w = w' from hnx)
  have hrn : s.rnext x rs = if s.st = 0 ∧ x % 2 = 1 then x else rs := rfl
  have HS := s.step_cases set x sl.length
  obtain ⟨s', hs'⟩ : ∃ s', s' = s.step sl.length set x := ⟨_, rfl⟩
  obtain ⟨rs', hrs'⟩ : ∃ rs', rs' = s.rnext x rs := ⟨_, rfl⟩
  rw [← hs'] at HS ⊢
  rw [← hrs'] at hrn ⊢
  have HST := hid hst
  have hway : (s' = ⟨s.pos, 1, x⟩ ∧ rs' = x ∧ (x % 2 == 0) = false) ∨ (s' = EWS.next sl.length ⟨s.pos, s.st, x⟩ ∧ rs' = rs ∧ (x % 2 == 0) = true) := by
    by_cases hx2 : x % 2 = 1
    · refine .inl ⟨?_, by rw [hrn, if_pos ⟨hst, hx2⟩], beq_eq_false_iff_ne.2 (by omega)⟩
      rcases HS with ⟨-, -, c⟩ | ⟨-, b, -⟩ | ⟨a, -⟩ | ⟨a, -⟩ | ⟨a, -⟩ | ⟨a, -⟩
      · exact c
      · exact absurd hx2 b
      all_goals omega
    · refine .inr ⟨?_, by rw [hrn, if_neg (fun e => hx2 e.2)], beq_iff_eq.2 (by omega)⟩
      rcases HS with ⟨-, b, -⟩ | ⟨-, -, c⟩ | ⟨a, -⟩ | ⟨a, -⟩ | ⟨a, -⟩ | ⟨a, -⟩
      · exact absurd b hx2
      · exact c
      all_goals omega
  have HWAY := hid hway
  clear hs hw hF hx c3 c4 c5 c6 k2 hnx hs' hrs' hrn HS hway hst
  go_enter Try.func87, Try.ntmps87
  go_wp2_with fail
  refine NX.out.mono ?_
  rintro e w' ⟨rfl, rfl⟩
  go_wp2
  go_region_held3 (fun w' => w'.cell? ⟨wb, 0, none⟩ = some (.pointer (some ⟨h, 0, none⟩)) ∧ w'.cell? ⟨wb, 1, none⟩ = some (.int .i64 t) ∧ w'.cell? ⟨wb, 2, none⟩ = some (.int .i64 s.pos) ∧ w'.cell? ⟨h, 0, none⟩ = some (.pointer (some ⟨rb, 0, none⟩)) ∧ w'.cell? ⟨h, 1, none⟩ = some (.int .i64 base)) (go_keep)
    ((go_at_call 116; (with_reducible refine (rload_ok (H.out.mem.keep KD.out (fun _ _ h => h)) t (base + 2 * s.pos) x t0 t1 (by omega) HX.out hlog).mono ?_); rintro e w1 ⟨rfl, F1, hm1, hk1, hf1⟩; have hL1 : RWaitAt w1 wb h t set s rs := hk1.at (KD.out.at HW.out (fun h => h)) HB.out; have hG1 := (H.out.eng.quiet KD.out).keep hk1 H.out.f1 H.out.f2; obtain ⟨d0, d1, d2, d3, d4, d5, d6⟩ := hL1.cells; obtain ⟨m0, m1, m2⟩ := hG1.cells; have zf2 : w1.frozen? ⟨wb, 2, none⟩ = false := free_of hL1 2; have zf4 : w1.frozen? ⟨wb, 4, none⟩ = false := free_of hL1 4; have zf5 : w1.frozen? ⟨wb, 5, none⟩ = false := free_of hL1 5; have zf6 : w1.frozen? ⟨wb, 6, none⟩ = false := free_of hL1 6; have M1 := hid hm1; have K1 := hid hk1; have F1' := hid hf1; have L1 := hid hL1; have G1 := hid hG1; clear hm1 hk1 hf1 hL1 hG1))
  rw [HST.out] at d5 d6
  simp only [ewpc] at d6
  have hd5 : ((0 : Nat) == 2) = false := rfl
  rw [hd5] at d5
  rcases HWAY.out with ⟨hsv, hrv, e1⟩ | ⟨hsv, hrv, e1⟩
  · have hb : RWaitAt ((w1.setCell ⟨wb, 4, none⟩ (.int .u64 x)).setCell ⟨wb, 6, none⟩ (.int .u8 18)) wb h t set s' rs' := by
      rw [hsv, hrv]
      have := set_same (i := 6) (set_same (i := 4) L1.out (.int .u64 x)) (.int .u8 18)
      rw [HST.out] at this
      exact this
    have hfin := rfw_mk (pc := 17) H.out HW.out HB.out M1.out K1.out F1'.out hb (Keep.setCell (Keep.setCell (Keep.refl (fun k => k = wb) w1) (.inl rfl) _) (.inl rfl) _)
    have hb3 : (s'.st == 3) = false := by rw [hsv]; rfl
    rw [hb3] at hfin
    have HFIN := hid hfin
    clear hb3 hsv hrv hb hfin HWAY hd5
    go_wp2
    go_ret2
    exact HFIN.out
  · have HRV := hid hrv
    obtain ⟨W, hW⟩ : ∃ W, W = ((w1.setCell ⟨wb, 2, none⟩ (.int .i64 ((s.pos : Int) + 1))).setCell ⟨wb, 5, none⟩ (.bool false)).setCell ⟨wb, 6, none⟩ (.int .u8 17) := ⟨_, rfl⟩
    have kW : Keep (fun k => k = wb) w1 W := by rw [hW]; exact Keep.setCell (Keep.setCell (Keep.setCell (Keep.refl (fun k => k = wb) w1) (.inl rfl) _) (.inl rfl) _) (.inl rfl) _
    have aW : W.heap[wb]? = some (.cells #[.pointer (some ⟨h, 0, none⟩), .int .i64 t, .int .i64 ((s.pos : Int) + 1), .int .u64 set, .int .u64 rs, .bool false, .int .u8 17] 188 (0, 0)) := by
      rw [hW]; exact set_same (set_same (set_same L1.out _) _) _
    clear hrv HWAY hd5
    have b0' : W.cell? ⟨wb, 0, none⟩ = some (.pointer (some ⟨h, 0, none⟩)) := by rw [cell_of aW]; rfl
    have b2' : W.cell? ⟨wb, 2, none⟩ = some (.int .i64 ((s.pos : Int) + 1)) := by rw [cell_of aW]; rfl
    have b6' : W.cell? ⟨wb, 6, none⟩ = some (.int .u8 17) := by rw [cell_of aW]; rfl
    have z6' : W.frozen? ⟨wb, 6, none⟩ = false := free_of aW 6
    have g2 : W.cell? ⟨h, 2, none⟩ = some (.slice (some ⟨sb, 0, none⟩) sl.length sl.length) := kW.cell G1.out.cells.2.2 (fun e => type_ne L1.out G1.out.head (by decide) e.symm)
    obtain ⟨n1, n2, n3⟩ := EWS.next_pos sl.length ⟨s.pos, s.st, x⟩
    have hpos : ((EWS.next sl.length ⟨s.pos, s.st, x⟩).pos : Int) = (s.pos : Int) + 1 := by rw [n1]; simp
    have AW := hid aW
    have KW := hid kW
    have HP := hid hpos
    have HS2 := hid hsv
    clear aW kW n1 n2 hpos hsv
    by_cases hl : s.pos + 1 = sl.length
    · have e9 : ((s.pos : Int) + 1 == (sl.length : Int)) = true := beq_iff_eq.2 (by omega)
      have hst3 : (EWS.next sl.length ⟨s.pos, s.st, x⟩).st = 3 := by
        rcases n3 with ⟨a, b⟩ | ⟨a, b⟩
        · exact a
        · exact absurd hl b
      have H3 := hid hst3
      clear hl hst3 n3
      go_wp2
      rw [← hW]
      clear hW
      go_quiet (fail)
      go_wp2
      go_ret2
      rw [HS2.out, HRV.out]
      have hb : RWaitAt ((W.drewN nq).setCell ⟨wb, 6, none⟩ (.int .u8 0)) wb h t set (EWS.next sl.length ⟨s.pos, s.st, x⟩) rs := by
        unfold RWaitAt
        rw [HP.out, H3.out]
        exact set_same (show (W.drewN nq).heap[wb]? = _ from AW.out) _
      have := rfw_mk (pc := 17) H.out HW.out HB.out M1.out K1.out F1'.out hb (Keep.setCell (KW.out.drewN nq) (.inl rfl) _)
      rw [H3.out] at this
      exact this
    · have e9 : ((s.pos : Int) + 1 == (sl.length : Int)) = false := beq_eq_false_iff_ne.2 (by omega)
      have hst3 : (EWS.next sl.length ⟨s.pos, s.st, x⟩).st = 0 := by
        rcases n3 with ⟨a, b⟩ | ⟨a, b⟩
        · exact absurd b hl
        · exact a
      have H3 := hid hst3
      clear hl hst3 n3
      go_wp2
      rw [← hW]
      clear hW
      go_quiet (fail)
      go_wp2
      go_ret2
      rw [HS2.out, HRV.out]
      have hb : RWaitAt (W.drewN nq) wb h t set (EWS.next sl.length ⟨s.pos, s.st, x⟩) rs := by
        unfold RWaitAt
        rw [HP.out, H3.out]
        exact AW.out
      have := rfw_mk (pc := 17) H.out HW.out HB.out M1.out K1.out F1'.out hb (KW.out.drewN nq)
      rw [H3.out] at this
      exact this
set_option maxRecDepth 100000 in
set_option maxHeartbeats 8000000 in
theorem rfwait_await (hs : RSys w h sb rb G base sl ws log) (hw : RWaitAt w wb h t set s rs) (hF : ¬ G wb) (hp : s.pos < 1000000) (hst : s.st = 2) (hrs : rs = s.seen) (x : Int) (t0 : 0 ≤ t) (t1 : t < 64) (b0 : 0 ≤ base) (b1 : base < 1000000) (hx : ws[(base + 2 * s.pos).toNat]? = some x) (hlog : log.length < 1000000000000) :
    Calls Try.prog 87 #[.pointer (some ⟨wb, 0, none⟩)] w (RFWStepTo w h sb rb G base sl ws (log ++ [⟨t, base + 2 * s.pos, 1, x, x, false⟩]) wb t set 17 (s.step sl.length set x) rs) := by
  obtain ⟨c0, c1, c2, c3, c4, c5, c6⟩ := hw.cells
  obtain ⟨k0, k1, k2⟩ := hs.eng.cells
  have hw1 : IntKind.i64.wrap (2 * (s.pos : Int)) = 2 * s.pos := by rw [IntKind.wrap_i64]; omega
  have hw2 : IntKind.i64.wrap (base + 2 * s.pos) = base + 2 * s.pos := by rw [IntKind.wrap_i64]; omega
  have hw3 : IntKind.i64.wrap (base + 2 * s.pos + 1) = base + 2 * s.pos + 1 := by rw [IntKind.wrap_i64]; omega
  have hwp : IntKind.i64.wrap ((s.pos : Int) + 1) = (s.pos : Int) + 1 := by rw [IntKind.wrap_i64]; omega
  have HW := hid hw
  have H := hid hs
  have HB := hid hF
  have HX := hid hx
  have KD := hid ((Keep.refl Nil w).drew)
  have hnx := rfwnext hw
  rw [hst] at hnx
  have NX := hid (show Calls Try.prog 85 #[.pointer (some ⟨wb, 0, none⟩)] w fun e w' => e = .returned (.int .u8 17) ∧ w = w' from hnx)
  have HS := s.step_cases set x sl.length
  obtain ⟨s', hs'⟩ : ∃ s', s' = s.step sl.length set x := ⟨_, rfl⟩
  rw [← hs'] at HS ⊢
  have HST := hid hst
  have hway : (s' = s ∧ (x != rs) = false) ∨ (s' = EWS.next sl.length s ∧ (x != rs) = true) := by
    by_cases hx2 : x = s.seen
    · refine .inl ⟨?_, by simp [hrs, hx2]⟩
      rcases HS with ⟨a, -⟩ | ⟨a, -⟩ | ⟨a, -⟩ | ⟨a, -⟩ | ⟨-, -, c⟩ | ⟨-, b, -⟩
      · omega
      · omega
      · omega
      · omega
      · exact c
      · exact absurd hx2 b
    · refine .inr ⟨?_, by simp [hrs, hx2]⟩
      rcases HS with ⟨a, -⟩ | ⟨a, -⟩ | ⟨a, -⟩ | ⟨a, -⟩ | ⟨-, b, -⟩ | ⟨-, -, c⟩
      · omega
      · omega
      · omega
      · omega
      · exact absurd b hx2
      · exact c
  have HWAY := hid hway
  clear hs hw hF hx c3 c4 c5 c6 k2 hnx hs' HS hway hst hrs
  go_enter Try.func87, Try.ntmps87
  go_wp2_with fail
  refine NX.out.mono ?_
  rintro e w' ⟨rfl, rfl⟩
  go_wp2
  go_region_held3 (fun w' => w'.cell? ⟨wb, 0, none⟩ = some (.pointer (some ⟨h, 0, none⟩)) ∧ w'.cell? ⟨wb, 1, none⟩ = some (.int .i64 t) ∧ w'.cell? ⟨wb, 2, none⟩ = some (.int .i64 s.pos) ∧ w'.cell? ⟨h, 0, none⟩ = some (.pointer (some ⟨rb, 0, none⟩)) ∧ w'.cell? ⟨h, 1, none⟩ = some (.int .i64 base)) (go_keep)
    ((go_at_call 116; (with_reducible refine (rload_ok (H.out.mem.keep KD.out (fun _ _ h => h)) t (base + 2 * s.pos) x t0 t1 (by omega) HX.out hlog).mono ?_); rintro e w1 ⟨rfl, F1, hm1, hk1, hf1⟩; have hL1 : RWaitAt w1 wb h t set s rs := hk1.at (KD.out.at HW.out (fun h => h)) HB.out; have hG1 := (H.out.eng.quiet KD.out).keep hk1 H.out.f1 H.out.f2; obtain ⟨d0, d1, d2, d3, d4, d5, d6⟩ := hL1.cells; obtain ⟨m0, m1, m2⟩ := hG1.cells; have zf2 : w1.frozen? ⟨wb, 2, none⟩ = false := free_of hL1 2; have zf4 : w1.frozen? ⟨wb, 4, none⟩ = false := free_of hL1 4; have zf5 : w1.frozen? ⟨wb, 5, none⟩ = false := free_of hL1 5; have zf6 : w1.frozen? ⟨wb, 6, none⟩ = false := free_of hL1 6; have M1 := hid hm1; have K1 := hid hk1; have F1' := hid hf1; have L1 := hid hL1; have G1 := hid hG1; clear hm1 hk1 hf1 hL1 hG1))
  rw [HST.out] at d5 d6
  simp only [ewpc] at d6
  have hd5 : ((2 : Nat) == 2) = true := rfl
  rw [hd5] at d5
  rcases HWAY.out with ⟨hsv, e1⟩ | ⟨hsv, e1⟩
  · have hL : RWaitAt w1 wb h t set s' rs := by rw [hsv]; exact L1.out
    have hfin := rfw_mk (pc := 17) H.out HW.out HB.out M1.out K1.out F1'.out hL (Keep.refl _ _)
    have hb3 : (s'.st == 3) = false := by rw [hsv, HST.out]; rfl
    rw [hb3] at hfin
    have HFIN := hid hfin
    clear hb3 hsv hfin HWAY hd5
    go_wp2
    go_ret2
    exact HFIN.out
  · obtain ⟨W, hW⟩ : ∃ W, W = ((w1.setCell ⟨wb, 2, none⟩ (.int .i64 ((s.pos : Int) + 1))).setCell ⟨wb, 5, none⟩ (.bool false)).setCell ⟨wb, 6, none⟩ (.int .u8 17) := ⟨_, rfl⟩
    have kW : Keep (fun k => k = wb) w1 W := by rw [hW]; exact Keep.setCell (Keep.setCell (Keep.setCell (Keep.refl (fun k => k = wb) w1) (.inl rfl) _) (.inl rfl) _) (.inl rfl) _
    have aW : W.heap[wb]? = some (.cells #[.pointer (some ⟨h, 0, none⟩), .int .i64 t, .int .i64 ((s.pos : Int) + 1), .int .u64 set, .int .u64 rs, .bool false, .int .u8 17] 188 (0, 0)) := by
      rw [hW]; exact set_same (set_same (set_same L1.out _) _) _
    clear HWAY hd5
    have b0' : W.cell? ⟨wb, 0, none⟩ = some (.pointer (some ⟨h, 0, none⟩)) := by rw [cell_of aW]; rfl
    have b2' : W.cell? ⟨wb, 2, none⟩ = some (.int .i64 ((s.pos : Int) + 1)) := by rw [cell_of aW]; rfl
    have b6' : W.cell? ⟨wb, 6, none⟩ = some (.int .u8 17) := by rw [cell_of aW]; rfl
    have z6' : W.frozen? ⟨wb, 6, none⟩ = false := free_of aW 6
    have g2 : W.cell? ⟨h, 2, none⟩ = some (.slice (some ⟨sb, 0, none⟩) sl.length sl.length) := kW.cell G1.out.cells.2.2 (fun e => type_ne L1.out G1.out.head (by decide) e.symm)
    obtain ⟨n1, n2, n3⟩ := EWS.next_pos sl.length s
    have hpos : ((EWS.next sl.length s).pos : Int) = (s.pos : Int) + 1 := by rw [n1]; simp
    have AW := hid aW
    have KW := hid kW
    have HP := hid hpos
    have HS2 := hid hsv
    clear aW kW n1 n2 hpos hsv
    by_cases hl : s.pos + 1 = sl.length
    · have e9 : ((s.pos : Int) + 1 == (sl.length : Int)) = true := beq_iff_eq.2 (by omega)
      have hst3 : (EWS.next sl.length s).st = 3 := by
        rcases n3 with ⟨a, b⟩ | ⟨a, b⟩
        · exact a
        · exact absurd hl b
      have H3 := hid hst3
      clear hl hst3 n3
      go_wp2
      rw [← hW]
      clear hW
      go_quiet (fail)
      go_wp2
      go_ret2
      rw [HS2.out]
      have hb : RWaitAt ((W.drewN nq).setCell ⟨wb, 6, none⟩ (.int .u8 0)) wb h t set (EWS.next sl.length s) rs := by
        unfold RWaitAt
        rw [HP.out, H3.out]
        exact set_same (show (W.drewN nq).heap[wb]? = _ from AW.out) _
      have := rfw_mk (pc := 17) H.out HW.out HB.out M1.out K1.out F1'.out hb (Keep.setCell (KW.out.drewN nq) (.inl rfl) _)
      rw [H3.out] at this
      exact this
    · have e9 : ((s.pos : Int) + 1 == (sl.length : Int)) = false := beq_eq_false_iff_ne.2 (by omega)
      have hst3 : (EWS.next sl.length s).st = 0 := by
        rcases n3 with ⟨a, b⟩ | ⟨a, b⟩
        · exact absurd b hl
        · exact a
      have H3 := hid hst3
      clear hl hst3 n3
      go_wp2
      rw [← hW]
      clear hW
      go_quiet (fail)
      go_wp2
      go_ret2
      rw [HS2.out]
      have hb : RWaitAt (W.drewN nq) wb h t set (EWS.next sl.length s) rs := by
        unfold RWaitAt
        rw [HP.out, H3.out]
        exact AW.out
      have := rfw_mk (pc := 17) H.out HW.out HB.out M1.out K1.out F1'.out hb (KW.out.drewN nq)
      rw [H3.out] at this
      exact this
set_option maxRecDepth 100000 in
set_option maxHeartbeats 8000000 in
theorem rfwait_mark {sn : Nat} (hs : RSys w h sb rb G base sl ws log) (hw : RWaitAt w wb h t (sn : Int) s rs) (hF : ¬ G wb) (hp : s.pos < 1000000) (hst : s.st = 1) (u : Nat) (hu : u < 64) (t0 : 0 ≤ t) (t1 : t < 64) (b0 : 0 ≤ base) (b1 : base < 1000000) (hx : ws[(base + 2 * s.pos + 1).toNat]? = some (u : Int)) (hlog : log.length < 1000000000000) :
    Calls Try.prog 87 #[.pointer (some ⟨wb, 0, none⟩)] w (RFWStepTo w h sb rb G base sl ws (log ++ [⟨t, base + 2 * s.pos + 1, 1, u, u, false⟩]) wb t sn 18 (s.step sl.length sn u) rs) := by
  obtain ⟨c0, c1, c2, c3, c4, c5, c6⟩ := hw.cells
  obtain ⟨k0, k1, k2⟩ := hs.eng.cells
  have hw1 : IntKind.i64.wrap (2 * (s.pos : Int)) = 2 * s.pos := by rw [IntKind.wrap_i64]; omega
  have hw2 : IntKind.i64.wrap (base + 2 * s.pos) = base + 2 * s.pos := by rw [IntKind.wrap_i64]; omega
  have hw3 : IntKind.i64.wrap (base + 2 * s.pos + 1) = base + 2 * s.pos + 1 := by rw [IntKind.wrap_i64]; omega
  have hwp : IntKind.i64.wrap ((s.pos : Int) + 1) = (s.pos : Int) + 1 := by rw [IntKind.wrap_i64]; omega
  have HW := hid hw
  have H := hid hs
  have HB := hid hF
  have HX := hid hx
  have KD := hid ((Keep.refl Nil w).drew)
  have hnx := rfwnext hw
  rw [hst] at hnx
  have NX := hid (show Calls Try.prog 85 #[.pointer (some ⟨wb, 0, none⟩)] w fun e w' => e = .returned (.int .u8 18) ∧ w = w' from hnx)
  have HS := s.step_cases (sn : Int) (u : Int) sl.length
  obtain ⟨s', hs'⟩ : ∃ s', s' = s.step sl.length (sn : Int) (u : Int) := ⟨_, rfl⟩
  rw [← hs'] at HS ⊢
  have HST := hid hst
  rw [conc_nat sn u hu] at HS
  have hway : (s' = ⟨s.pos, 2, s.seen⟩ ∧ (((sn : Int) / 2 ^ u).tmod 2 == 1) = true) ∨ (s' = EWS.next sl.length s ∧ (((sn : Int) / 2 ^ u).tmod 2 == 1) = false) := by
    cases hb : sn.testBit u with
    | true =>
      rw [hb] at HS
      refine .inl ⟨?_, shr_mod sn u true hb⟩
      rcases HS with ⟨a, -⟩ | ⟨a, -⟩ | ⟨-, -, c⟩ | ⟨-, b, -⟩ | ⟨a, -⟩ | ⟨a, -⟩
      · omega
      · omega
      · exact c
      · cases b
      · omega
      · omega
    | false =>
      rw [hb] at HS
      refine .inr ⟨?_, shr_mod sn u false hb⟩
      rcases HS with ⟨a, -⟩ | ⟨a, -⟩ | ⟨-, b, -⟩ | ⟨-, -, c⟩ | ⟨a, -⟩ | ⟨a, -⟩
      · omega
      · omega
      · cases b
      · exact c
      · omega
      · omega
  have HWAY := hid hway
  clear hs hw hF hx c3 c4 c5 c6 k2 hnx hs' HS hway hst
  go_enter Try.func87, Try.ntmps87
  go_wp2_with fail
  refine NX.out.mono ?_
  rintro e w' ⟨rfl, rfl⟩
  go_wp2
  go_region_held3 (fun w' => w'.cell? ⟨wb, 0, none⟩ = some (.pointer (some ⟨h, 0, none⟩)) ∧ w'.cell? ⟨wb, 1, none⟩ = some (.int .i64 t) ∧ w'.cell? ⟨wb, 2, none⟩ = some (.int .i64 s.pos) ∧ w'.cell? ⟨h, 0, none⟩ = some (.pointer (some ⟨rb, 0, none⟩)) ∧ w'.cell? ⟨h, 1, none⟩ = some (.int .i64 base)) (go_keep)
    ((go_at_call 116; (with_reducible refine (rload_ok (H.out.mem.keep KD.out (fun _ _ h => h)) t (base + 2 * s.pos + 1) (u : Int) t0 t1 (by omega) HX.out hlog).mono ?_); rintro e w1 ⟨rfl, F1, hm1, hk1, hf1⟩; have hL1 : RWaitAt w1 wb h t sn s rs := hk1.at (KD.out.at HW.out (fun h => h)) HB.out; have hG1 := (H.out.eng.quiet KD.out).keep hk1 H.out.f1 H.out.f2; obtain ⟨d0, d1, d2, d3, d4, d5, d6⟩ := hL1.cells; obtain ⟨m0, m1, m2⟩ := hG1.cells; have zf2 : w1.frozen? ⟨wb, 2, none⟩ = false := free_of hL1 2; have zf4 : w1.frozen? ⟨wb, 4, none⟩ = false := free_of hL1 4; have zf5 : w1.frozen? ⟨wb, 5, none⟩ = false := free_of hL1 5; have zf6 : w1.frozen? ⟨wb, 6, none⟩ = false := free_of hL1 6; have M1 := hid hm1; have K1 := hid hk1; have F1' := hid hf1; have L1 := hid hL1; have G1 := hid hG1; clear hm1 hk1 hf1 hL1 hG1))
  rw [HST.out] at d5 d6
  simp only [ewpc] at d6
  have hd5 : ((1 : Nat) == 2) = false := rfl
  rw [hd5] at d5
  rcases HWAY.out with ⟨hsv, e1⟩ | ⟨hsv, e1⟩
  · have hb : RWaitAt ((w1.setCell ⟨wb, 6, none⟩ (.int .u8 17)).setCell ⟨wb, 5, none⟩ (.bool true)) wb h t sn s' rs := by
      rw [hsv]
      have := set_same (i := 5) (set_same (i := 6) L1.out (.int .u8 17)) (.bool true)
      rw [HST.out] at this
      exact this
    have hfin := rfw_mk (pc := 18) H.out HW.out HB.out M1.out K1.out F1'.out hb (Keep.setCell (Keep.setCell (Keep.refl (fun k => k = wb) w1) (.inl rfl) _) (.inl rfl) _)
    have hb3 : (s'.st == 3) = false := by rw [hsv]; rfl
    rw [hb3] at hfin
    have HFIN := hid hfin
    clear hb3 hsv hb hfin HWAY hd5
    go_wp2
    go_ret2
    exact HFIN.out
  · obtain ⟨W, hW⟩ : ∃ W, W = ((((w1.setCell ⟨wb, 6, none⟩ (.int .u8 17)).setCell ⟨wb, 5, none⟩ (.bool false)).setCell ⟨wb, 2, none⟩ (.int .i64 ((s.pos : Int) + 1))).setCell ⟨wb, 5, none⟩ (.bool false)).setCell ⟨wb, 6, none⟩ (.int .u8 17) := ⟨_, rfl⟩
    have kW : Keep (fun k => k = wb) w1 W := by rw [hW]; exact Keep.setCell (Keep.setCell (Keep.setCell (Keep.setCell (Keep.setCell (Keep.refl (fun k => k = wb) w1) (.inl rfl) _) (.inl rfl) _) (.inl rfl) _) (.inl rfl) _) (.inl rfl) _
    have aW : W.heap[wb]? = some (.cells #[.pointer (some ⟨h, 0, none⟩), .int .i64 t, .int .i64 ((s.pos : Int) + 1), .int .u64 sn, .int .u64 rs, .bool false, .int .u8 17] 188 (0, 0)) := by
      rw [hW]; exact set_same (set_same (set_same (set_same (set_same L1.out _) _) _) _) _
    clear HWAY hd5
    have b0' : W.cell? ⟨wb, 0, none⟩ = some (.pointer (some ⟨h, 0, none⟩)) := by rw [cell_of aW]; rfl
    have b2' : W.cell? ⟨wb, 2, none⟩ = some (.int .i64 ((s.pos : Int) + 1)) := by rw [cell_of aW]; rfl
    have b6' : W.cell? ⟨wb, 6, none⟩ = some (.int .u8 17) := by rw [cell_of aW]; rfl
    have z6' : W.frozen? ⟨wb, 6, none⟩ = false := free_of aW 6
    have g2 : W.cell? ⟨h, 2, none⟩ = some (.slice (some ⟨sb, 0, none⟩) sl.length sl.length) := kW.cell G1.out.cells.2.2 (fun e => type_ne L1.out G1.out.head (by decide) e.symm)
    obtain ⟨n1, n2, n3⟩ := EWS.next_pos sl.length s
    have hpos : ((EWS.next sl.length s).pos : Int) = (s.pos : Int) + 1 := by rw [n1]; simp
    have AW := hid aW
    have KW := hid kW
    have HP := hid hpos
    have HS2 := hid hsv
    clear aW kW n1 n2 hpos hsv
    by_cases hl : s.pos + 1 = sl.length
    · have e9 : ((s.pos : Int) + 1 == (sl.length : Int)) = true := beq_iff_eq.2 (by omega)
      have hst3 : (EWS.next sl.length s).st = 3 := by
        rcases n3 with ⟨a, b⟩ | ⟨a, b⟩
        · exact a
        · exact absurd hl b
      have H3 := hid hst3
      clear hl hst3 n3
      go_wp2
      rw [← hW]
      clear hW
      go_quiet (fail)
      go_wp2
      go_ret2
      rw [HS2.out]
      have hb : RWaitAt ((W.drewN nq).setCell ⟨wb, 6, none⟩ (.int .u8 0)) wb h t sn (EWS.next sl.length s) rs := by
        unfold RWaitAt
        rw [HP.out, H3.out]
        exact set_same (show (W.drewN nq).heap[wb]? = _ from AW.out) _
      have := rfw_mk (pc := 18) H.out HW.out HB.out M1.out K1.out F1'.out hb (Keep.setCell (KW.out.drewN nq) (.inl rfl) _)
      rw [H3.out] at this
      exact this
    · have e9 : ((s.pos : Int) + 1 == (sl.length : Int)) = false := beq_eq_false_iff_ne.2 (by omega)
      have hst3 : (EWS.next sl.length s).st = 0 := by
        rcases n3 with ⟨a, b⟩ | ⟨a, b⟩
        · exact absurd b hl
        · exact a
      have H3 := hid hst3
      clear hl hst3 n3
      go_wp2
      rw [← hW]
      clear hW
      go_quiet (fail)
      go_wp2
      go_ret2
      rw [HS2.out]
      have hb : RWaitAt (W.drewN nq) wb h t sn (EWS.next sl.length s) rs := by
        unfold RWaitAt
        rw [HP.out, H3.out]
        exact AW.out
      have := rfw_mk (pc := 18) H.out HW.out HB.out M1.out K1.out F1'.out hb (KW.out.drewN nq)
      rw [H3.out] at this
      exact this
end
end Go.Proofs.Ytihgfklajhhikaa
