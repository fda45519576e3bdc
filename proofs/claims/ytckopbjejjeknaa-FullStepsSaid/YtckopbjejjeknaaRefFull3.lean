/- leapfrogref16: a step of a wait, and Open: contracts. -/
import Derived.Test.YtckopbjejjeknaaRefFull2
namespace Go.Proofs.Ytckopbjejjeknaa
open Go.RowKit Go.Lf
section
variable {w : World} {h sb rb : Nat} {G : Nat → Prop} {base : Int} {sl : List (Int × Bool × Bool)} {ws : List Int} {log : List Acc} {wb : Nat} {t v x : Int} {i : Nat} {s : WS}

/-- The reference's wait has made a step. -/
def RFWStepTo (w : World) (h sb rb : Nat) (G : Nat → Prop) (base : Int) (sl : List (Int × Bool × Bool)) (ws : List Int) (log : List Acc) (wb : Nat) (t : Int) (s : WS) (e : Ending) (w' : World) : Prop :=
  e = .returned (.tuple #[.int .u8 17, .bool (decide (2 ≤ s.st))]) ∧ ∃ G', RSys w' h sb rb G' base sl ws log ∧ RWaitAt w' wb h t s ∧ Keep (fun k => G k ∨ k = wb) w w' ∧ Foot w G G' ∧ ¬ G' wb
theorem rfw_mk {w1 w2 : World} {G1 : Nat → Prop} {log' : List Acc} {s' : WS} (hs : RSys w h sb rb G base sl ws log) (hw : RWaitAt w wb h t s) (hF : ¬ G wb) (m1 : RefAt w1 rb G1 ws log') (k1 : Keep G w.drew w1) (f1 : Foot w.drew G G1) (l2 : RWaitAt w2 wb h t s') (k2 : Keep (fun k => k = wb) w1 w2) :
    RFWStepTo w h sb rb G base sl ws log' wb t s' (.returned (.tuple #[.int .u8 17, .bool (decide (2 ≤ s'.st))])) w2 := by
  have lw := lt_of_block hw
  have e1 : wb ≠ h := type_ne hw hs.eng.head (by decide)
  have e2 : wb ≠ sb := type_ne hw hs.eng.slots (by decide)
  have n1 : ∀ b : Nat, ¬ G b → b < w.heap.size → ¬ G1 b := fun b hb hl hF' => (f1 b hF').elim hb (fun h => by simp at h; omega)
  have nw := n1 wb hF lw
  have k0 : Keep G w w1 := ((Keep.refl G w).drew).trans k1 (fun _ _ h => h)
  refine ⟨rfl, G1, ⟨m1.keep k2 (fun k hk e => nw (by rw [← e]; exact hk)), (hs.eng.keep k0 hs.f1 hs.f2).keep k2 (fun e => e1 e.symm) (fun e => e2 e.symm), n1 h hs.f1 (lt_of_block hs.eng.head), n1 sb hs.f2 (lt_of_block hs.eng.slots)⟩, l2, ?_, fun k hk => (f1 k hk).elim .inl (fun h => .inr (by simpa using h)), nw⟩
  exact (k0.mono (T := fun k => G k ∨ k = wb) (fun _ _ h => .inl h)).trans (k2.mono (T := fun k => G k ∨ k = wb) (fun _ _ h => .inr h)) (fun _ _ h => h)

theorem rwait_set (hw : RWaitAt w wb h t s) {s' : WS} {u1 u2 u3 : Value} (h1 : u1 = .int .i64 s'.pos) (h2 : u2 = .int .u64 s'.rseq) (h3 : u3 = .bool (decide (2 ≤ s'.st))) : RWaitAt (((w.setCell ⟨wb, 2, none⟩ u1).setCell ⟨wb, 3, none⟩ u2).setCell ⟨wb, 4, none⟩ u3) wb h t s' := by
  subst h1; subst h2; subst h3
  exact set_same (set_same (set_same hw _) _) _

set_option maxRecDepth 100000 in
set_option maxHeartbeats 8000000 in
theorem rfwait_step (hs : RSys w h sb rb G base sl ws log) (hw : RWaitAt w wb h t s) (hF : ¬ G wb) (hp : s.pos < 1000000) (hst : s.st < 2) (hodd : s.st = 1 → s.first % 2 = 1) (x : Int) (x0 : 0 ≤ x) (t0 : 0 ≤ t) (t1 : t < 64) (b0 : 0 ≤ base) (b1 : base < 1000000) (hx : ws[(base + s.pos).toNat]? = some x) (hlog : log.length < 1000000000000) :
    Calls Try.prog 79 #[.pointer (some ⟨wb, 0, none⟩)] w (RFWStepTo w h sb rb G base sl ws (log ++ [⟨t, base + s.pos, 1, x, x, false⟩]) wb t (s.step sl.length x)) := by
  obtain ⟨c0, c1, c2, c3, c4⟩ := hw.cells
  obtain ⟨k0, k1, k2⟩ := hs.eng.cells
  have hwr : IntKind.i64.wrap (base + s.pos) = base + s.pos := by rw [IntKind.wrap_i64]; omega
  have hwp : IntKind.i64.wrap ((s.pos : Int) + 1) = (s.pos : Int) + 1 := by rw [IntKind.wrap_i64]; omega
  have hnx := rfwnext hw
  rw [if_neg (by omega)] at hnx
  have NX := hid hnx
  have HW := hid hw
  have H := hid hs
  have HB := hid hF
  have HX := hid hx
  have KD := hid ((Keep.refl Nil w).drew)
  have hstp : s.step sl.length x = if s.st = 0 then (if x % 2 = 0 then s.next sl.length else { s with st := 1, first := x }) else if x = s.first then s else s.next sl.length := rfl
  have hrq : s.rseq = if s.st = 1 then s.first else 0 := rfl
  obtain ⟨s', hs'⟩ : ∃ s', s' = s.step sl.length x := ⟨_, rfl⟩
  rw [← hs'] at hstp ⊢
  -- which way
  have hway : (s' = { s with st := 1, first := x } ∧ (x % 2 == 1) = true ∧ ((s.rseq == 0) = true ∨ (s.rseq == 0) = false ∧ (s.rseq == x) = true)) ∨ (s' = s.next sl.length ∧ ((x % 2 == 1) = false ∨ (x % 2 == 1) = true ∧ (s.rseq == 0) = false ∧ (s.rseq == x) = false)) := by
    by_cases h0 : s.st = 0
    · rw [if_pos h0] at hstp
      rw [if_neg (by omega)] at hrq
      by_cases hx2 : x % 2 = 0
      · rw [if_pos hx2] at hstp
        exact .inr ⟨hstp, .inl (beq_eq_false_iff_ne.2 (by omega))⟩
      · rw [if_neg hx2] at hstp
        exact .inl ⟨hstp, beq_iff_eq.2 (by omega), .inl (beq_iff_eq.2 hrq)⟩
    · have h1 : s.st = 1 := by omega
      have ho := hodd h1
      rw [if_neg h0] at hstp
      rw [if_pos h1] at hrq
      by_cases hxf : x = s.first
      · rw [if_pos hxf] at hstp
        refine .inl ⟨by rw [hstp]; obtain ⟨a, b, c⟩ := s; simp only at h1 hxf; subst h1; subst hxf; rfl, beq_iff_eq.2 (by omega), .inr ⟨beq_eq_false_iff_ne.2 (by omega), beq_iff_eq.2 (by omega)⟩⟩
      · rw [if_neg hxf] at hstp
        refine .inr ⟨hstp, ?_⟩
        by_cases hx2 : x % 2 = 1
        · exact .inr ⟨beq_iff_eq.2 hx2, beq_eq_false_iff_ne.2 (by omega), beq_eq_false_iff_ne.2 (by omega)⟩
        · exact .inl (beq_eq_false_iff_ne.2 hx2)
  have HWAY := hid hway
  have hst2 : decide (2 ≤ s.st) = false := decide_eq_false (by omega)
  have HST2 := hid hst2
  clear hs hw hF hx c3 c4 k2 hnx hstp hs' hway hrq hst hodd hst2
  go_enter Try.func79, Try.ntmps79
  go_wp2_with fail
  refine NX.out.mono ?_
  rintro e w' ⟨rfl, rfl⟩
  go_wp2
  go_region_held3 (fun w' => w'.cell? ⟨wb, 0, none⟩ = some (.pointer (some ⟨h, 0, none⟩)) ∧ w'.cell? ⟨wb, 1, none⟩ = some (.int .i64 t) ∧ w'.cell? ⟨wb, 2, none⟩ = some (.int .i64 s.pos) ∧ w'.cell? ⟨h, 0, none⟩ = some (.pointer (some ⟨rb, 0, none⟩)) ∧ w'.cell? ⟨h, 1, none⟩ = some (.int .i64 base)) (go_keep)
    ((go_at_call 90; (with_reducible refine (rload_ok (H.out.mem.keep KD.out (fun _ _ h => h)) t (base + s.pos) x t0 t1 (by omega) HX.out hlog).mono ?_); rintro e w1 ⟨rfl, F1, hm1, hk1, hf1⟩; have hL1 : RWaitAt w1 wb h t s := hk1.at (KD.out.at HW.out (fun h => h)) HB.out; have hG1 := (H.out.eng.quiet KD.out).keep hk1 H.out.f1 H.out.f2; obtain ⟨d0, d1, d2, d3, d4⟩ := hL1.cells; obtain ⟨m0, m1, m2⟩ := hG1.cells; have zf2 : w1.frozen? ⟨wb, 2, none⟩ = false := free_of hL1 2; have zf3 : w1.frozen? ⟨wb, 3, none⟩ = false := free_of hL1 3; have zf4 : w1.frozen? ⟨wb, 4, none⟩ = false := free_of hL1 4; have M1 := hid hm1; have K1 := hid hk1; have F1' := hid hf1; have L1 := hid hL1; have G1 := hid hG1; clear hm1 hk1 hf1 hL1 hG1))
  rcases HWAY.out with ⟨hsv, e1, e2⟩ | ⟨hsv, e2⟩
  · have hfin : ∀ W, W = w1.setCell ⟨wb, 3, none⟩ (.int .u64 x) → RFWStepTo w h sb rb G base sl ws (log ++ [⟨t, base + s.pos, 1, x, x, false⟩]) wb t s' (.returned (.tuple #[.int .u8 17, .bool false])) W := by
      rintro W rfl
      have hb : RWaitAt (w1.setCell ⟨wb, 3, none⟩ (.int .u64 x)) wb h t s' := by
        have := set_same (i := 3) L1.out (.int .u64 x)
        rw [hsv]
        unfold RWaitAt
        rw [HST2.out] at this
        exact this
      have := rfw_mk (s' := s') H.out HW.out HB.out M1.out K1.out F1'.out hb (Keep.setCell (Keep.refl (fun k => k = wb) w1) (.inl rfl) _)
      rwa [hsv] at this ⊢
    have HFIN := hid hfin
    clear hsv hfin HWAY
    rcases e2 with e2 | ⟨e2, e3⟩
    · go_wp2
      go_ret2
      exact HFIN.out _ rfl
    · go_wp2
      go_ret2
      exact HFIN.out _ rfl
  · -- the next slot
    obtain ⟨W, hW⟩ : ∃ W, W = (w1.setCell ⟨wb, 2, none⟩ (.int .i64 ((s.pos : Int) + 1))).setCell ⟨wb, 3, none⟩ (.int .u64 0) := ⟨_, rfl⟩
    have kW : Keep (fun k => k = wb) w1 W := by rw [hW]; exact Keep.setCell (Keep.setCell (Keep.refl (fun k => k = wb) w1) (.inl rfl) _) (.inl rfl) _
    have aW : W.heap[wb]? = some (.cells #[.pointer (some ⟨h, 0, none⟩), .int .i64 t, .int .i64 ((s.pos : Int) + 1), .int .u64 0, .bool (decide (2 ≤ s.st))] 158 (0, 0)) := by
      rw [hW]; exact set_same (set_same L1.out _) _
    have b0' : W.cell? ⟨wb, 0, none⟩ = some (.pointer (some ⟨h, 0, none⟩)) := by rw [cell_of aW]; rfl
    have b2' : W.cell? ⟨wb, 2, none⟩ = some (.int .i64 ((s.pos : Int) + 1)) := by rw [cell_of aW]; rfl
    have b4' : W.cell? ⟨wb, 4, none⟩ = some (.bool (decide (2 ≤ s.st))) := by rw [cell_of aW]; rfl
    have z4' : W.frozen? ⟨wb, 4, none⟩ = false := free_of aW 4
    have g2 : W.cell? ⟨h, 2, none⟩ = some (.slice (some ⟨sb, 0, none⟩) sl.length sl.length) := kW.cell m2 (fun e => type_ne L1.out G1.out.head (by decide) e.symm)
    have hov : ((s.pos : Int) + 1 == (sl.length : Int)) = decide (2 ≤ (s.next sl.length).st) := by
      unfold WS.next
      by_cases hl : s.pos + 1 = sl.length
      · rw [if_pos hl]; simp only; rw [beq_iff_eq.2 (by omega)]; rfl
      · rw [if_neg hl]; simp only; rw [beq_eq_false_iff_ne.2 (by omega)]; rfl
    have hpos : ((s.next sl.length).pos : Int) = (s.pos : Int) + 1 := by unfold WS.next; split <;> simp
    have hseq : (s.next sl.length).rseq = 0 := by unfold WS.next; split <;> rfl
    have hfin : ∀ W', W' = W.drew.setCell ⟨wb, 4, none⟩ (.bool ((s.pos : Int) + 1 == (sl.length : Int))) → RFWStepTo w h sb rb G base sl ws (log ++ [⟨t, base + s.pos, 1, x, x, false⟩]) wb t s' (.returned (.tuple #[.int .u8 17, .bool ((s.pos : Int) + 1 == (sl.length : Int))])) W' ∧ W'.cell? ⟨wb, 4, none⟩ = some (.bool ((s.pos : Int) + 1 == (sl.length : Int))) := by
      rintro W' rfl
      have hb0 := set_same (i := 4) (show W.drew.heap[wb]? = _ from aW) (.bool ((s.pos : Int) + 1 == (sl.length : Int)))
      have hb : RWaitAt (W.drew.setCell ⟨wb, 4, none⟩ (.bool ((s.pos : Int) + 1 == (sl.length : Int)))) wb h t s' := by
        rw [hsv]
        unfold RWaitAt
        rw [hpos, hseq, ← hov]
        exact hb0
      refine ⟨?_, by rw [cell_of hb0]; rfl⟩
      have := rfw_mk (s' := s') H.out HW.out HB.out M1.out K1.out F1'.out hb (Keep.setCell kW.drew (.inl rfl) _)
      rw [hsv] at this ⊢
      rwa [← hov] at this
    have HFIN := hid hfin
    clear hsv hfin HWAY aW kW hov hpos hseq m0 m1 m2
    rcases e2 with e2 | ⟨e2, e3, e4⟩
    all_goals
      go_wp2
      rw [← hW]
      clear hW
      go_still_tail 16, (by kernel_rfl)
      change wpList _ _ _ _ _ W.drew
      go_wp2
      obtain ⟨hf1, hf2⟩ := HFIN.out _ rfl
      have HF1 := hid hf1
      clear hf1
      go_quiet (fail)
      go_wp2
      go_ret2
      obtain ⟨q0, G', q1, q2, q3, q4, q5⟩ := HF1.out
      exact ⟨q0, G', q1.quiet ((Keep.refl Nil _).drewN nq), ((Keep.refl Nil _).drewN nq).at q2 (fun h => h), q3.drewN nq, q4, q5⟩

/-! Open. -/
set_option maxRecDepth 100000 in
set_option maxHeartbeats 2000000 in
theorem rfopen_ok (he : REngAt w h sb rb base sl) (nums : List Int) (hl : nums.length = sl.length) (hq : ∀ (k : Nat) (x : Int) (b d : Bool), sl[k]? = some (x, b, d) → nums[k]? = some x ∧ (d = true ↔ x % 2 = 1)) (hn : sl.length ≤ 1000) :
    Calls Try.prog 52 #[.pointer (some ⟨h, 0, none⟩)] w (FOpenTo w nums) := by
  obtain ⟨c0, c1, c2⟩ := he.cells
  have H := hid he
  have HQ := hid hq
  have HL := hid hl
  clear he c0 c1 hq hl
  go_enter Try.func52, Try.ntmps52
  go_wp2
  go_loopw [3, 4] (fun v' i wr => ∃ (k : Nat) (v : Value), k ≤ sl.length ∧ i = .int .i64 k ∧ v' = v ∧ wr.ownsRow 0 3 1 v (fopens nums k).length ((fopens nums k).map (Value.int .i64)) ∧ Keep Nil w wr ∧ ∀ k, v.ownBlock = some k → w.heap.size ≤ k) (fun _ i _ => sl.length - (intOf i).toNat)
  case atStart => exact ⟨0, _, Nat.zero_le _, rfl, rfl, World.ownsRow_nil _ _ _ _, Keep.refl _ _, by simp [Value.ownBlock]⟩
  case round =>
    obtain ⟨k, v, hk, rfl, hvv, ho, hkk, hv⟩ := hrel
    obtain rfl : v = _ := hvv.symm
    have HO := hid ho
    have HK := hid hkk
    have HV := hid hv
    have cN := HK.out.cell c2 (fun h => h)
    clear ho hkk hv
    by_cases hlt : k < sl.length
    · obtain ⟨⟨x, bg, d⟩, hx⟩ : ∃ p, sl[k]? = some p := ⟨_, List.getElem?_eq_getElem hlt⟩
      obtain ⟨hx1, hd⟩ := HQ.out k x bg d hx
      obtain ⟨s1, s2, s3⟩ := (H.out.quiet HK.out).slot hx
      have HX := hid hx1
      have z0 : (0 : Int) ≤ (k : Int) := by omega
      have z1 : (k : Int) < (sl.length : Int) := by omega
      clear hx hx1 s1 s2
      cases d with
      | true =>
        have HODD := hid (hd.1 rfl)
        clear hd
        go_wp2_with (at_builtin; refine wpList_app _ rfl (.tmp 26) (.tmp 28) 39 rfl 3 _ 1 8 Try.underlying39 infoInt rfl (by decide) v (fopens nums k).length ((fopens nums k).map (Value.int .i64)) rfl ?own _ 1 [.int .i64 k] rfl ?rd ?one ?byt ?len ?_)
        case own => exact HO.out.alloc _
        case rd => exact rd_new _ _ _ _ _ _
        case one => simp [Value.oneCell']
        case byt => have := fopens_len nums k; omega
        case len => have := fopens_len nums k; unfold maxLen; omega
        intro a' c' w3 ho hg hs
        have HO3 := hid ho
        have HK3 := hid (Keep.grown (HK.out.alloc _) hg (fun j hj => .inr (HV.out j hj)))
        have HV3 := hid (show ∀ j, (Value.slice a' ((fopens nums k).length + 1) c').ownBlock = some j → w.heap.size ≤ j from fun j hj => by
          rcases hs j hj with h | h
          · exact HV.out j h
          · have := HK.out.size; simp at h; omega)
        clear ho hg hs
        go_wp2
        go_roundw
        case rel =>
          refine ⟨k + 1, _, by omega, by go_num, rfl, ?_, HK3.out, HV3.out⟩
          rw [fopens_yes HX.out HODD.out, int_row1, List.length_append]
          exact HO3.out
        case measure => simp [intOf]; omega
      | false =>
        have HODD := hid (show ¬ x % 2 = 1 from fun h => by have := hd.2 h; cases this)
        clear hd
        go_wp2
        go_roundw
        case rel => exact ⟨k + 1, _, by omega, by go_num, rfl, by rw [fopens_no HX.out HODD.out]; exact HO.out, HK.out, HV.out⟩
        case measure => simp [intOf]; omega
    · obtain rfl : k = sl.length := by omega
      go_wp2
      go_ret
      exact ⟨_, rfl, by rw [HL.out]; exact HO.out, HK.out, HV.out⟩
end
end Go.Proofs.Ytckopbjejjeknaa
