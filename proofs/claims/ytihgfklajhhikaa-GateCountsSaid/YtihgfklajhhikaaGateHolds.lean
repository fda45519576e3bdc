/- gate: holds. -/
import Derived.Test.YtihgfklajhhikaaGatePlay
set_option linter.unusedVariables false
set_option linter.unusedSimpArgs false
namespace Go.Lf
def hI : GA := ⟨.inn 1, 3, 1, 0, []⟩
def hA (k : Nat) : GS := if k = 0 then GS.init 1 else if k = 1 then ⟨[0, 0, 0, 0], [⟨.ent (some 1), 3, 0, 0, []⟩, ga0, ga0, ga0, ga0, ga0]⟩ else ⟨[0, 1, 0, 0], [hI, ga0, ga0, ga0, ga0, ga0]⟩
def hB (k : Nat) : GS := if k = 0 then hA 2 else ⟨[if 4 ≤ k then 1 else 0, 1, 0, 2], [hI, ⟨.wt (min k 4) 0 [0], 0, 0, 8, [1, 0, 0, 0, 0, 0]⟩, ga0, ga0, ga0, ga0]⟩
def hC (k : Nat) : GS := ⟨[1, 0, 0, if k < 2 then 2 else 0], [⟨.idle, 3, 1, 0, []⟩, ⟨if k < 2 then .wt (4 + k) 0 [0] else .idle, 0, 0, 8, [1, 0, 0, 0, 0, 0]⟩, ga0, ga0, ga0, ga0]⟩
theorem hA_0 : GS.act 1 (hA 0) 0 0 3 1 = hA 1 := by rfl
theorem hA_1 : GS.act 1 (hA 1) 0 0 3 1 = hA 2 := by rfl
theorem hB_step (k : Nat) : GS.act 1 (hB k) 1 2 0 8 = hB (k + 1) := by
  by_cases h : k < 4
  · have : k = 0 ∨ k = 1 ∨ k = 2 ∨ k = 3 := by omega
    rcases this with rfl | rfl | rfl | rfl <;> rfl
  · have e : ∀ j, 4 ≤ j → hB j = ⟨[1, 1, 0, 2], [hI, ⟨.wt 4 0 [0], 0, 0, 8, [1, 0, 0, 0, 0, 0]⟩, ga0, ga0, ga0, ga0]⟩ := fun j hj => by
      unfold hB
      rw [if_neg (by omega), if_pos hj, Nat.min_eq_right hj]
    rw [e k (by omega), e (k + 1) (by omega)]
    rfl
theorem hC_step (k : Nat) (h : k < 2) : GS.act 1 (hC k) 1 2 0 8 = hC (k + 1) := by
  have : k = 0 ∨ k = 1 := by omega
  rcases this with rfl | rfl <;> rfl
end Go.Lf
namespace Go.Proofs.Ytihgfklajhhikaa
open Go.RowKit Go.Lf
section
variable {w wr : World} {rb g r mb n k : Nat} {s : GS}
/-- The engine's Exit, with the run's store behind it. -/
theorem gexit_run (h : GGood w rb g r mb n k s wr) {t : Nat} (t6 : t < 6) {x : GA} (hx : s.th[t]? = some x) {c : Nat} (hp : x.p = .inn c) (hk : k < 1000000) :
    Calls Try.prog 58 #[ptr g, .int .i64 t, .int .i64 t] wr fun e w2 => e = .returned (.tuple #[.int .u8 16, .int .i64 0]) ∧ w2.frozen? ⟨rb, 2 + t * 7 + 2, none⟩ = false ∧ w2.cell? ⟨rb, 2 + t * 7 + 2, none⟩ = some (.bool true) ∧ GGood w rb g r mb n (k + 1) ⟨s.ws.set c (wat s.ws c - 1), s.th.set t { x with p := .idle }⟩ (w2.setCell ⟨rb, 2 + t * 7 + 2, none⟩ (.bool false)) := by
  obtain ⟨F, ml, ws, th, log, H, rfl, hI, hl⟩ := h
  simp only [List.getElem?_map, Option.map_eq_some_iff] at hx
  obtain ⟨y, HX, rfl⟩ := hx
  obtain ⟨sb, HP⟩ : ∃ sb, y.p = .inn sb c := by
    unfold GT.abs GPh.abs at hp
    cases hyp : y.p with
    | inn a b => rw [hyp] at hp; simp only [GP.inn.injEq] at hp; subst hp; exact ⟨a, rfl⟩
    | idle => rw [hyp] at hp; cases hp
    | ent a b c => rw [hyp] at hp; cases hp
    | wt a b c d e f g => rw [hyp] at hp; cases hp
  have e1 := (H.thr t y HX).inn _ _ HP
  have bs := H.blk t y sb HX (.inl (by rw [HP]; exact rfl))
  obtain ⟨hv, v0, v1⟩ := hI.cntAt ((hI.thr t y.abs (abs_at HX)).inn c hp).1
  have v2 := cntIn_pos (a := c) (abs_at HX) (by rw [hp]; simp [GP.isAt])
  have hsx := gexit_ok c (cntIn c (th.map GT.abs)) H.mem H.eng H.fg H.fr (t : Int) t (gsErr_ok t6) (by rw [H.look HX, HP]; rfl) e1 bs.1 hv v0 (by omega) (by omega)
  rw [wrap_dec v2 v1] at hsx
  refine hsx.mono ?_
  rintro e w2 ⟨rfl, F2, m2, g2, k2, f2⟩
  obtain ⟨d1', d2', d3'⟩ := H.rgr
  have hnS : ¬ (F rb ∨ rb = r) := fun e => e.elim H.frb d2'
  have r2 := H.run.keep k2 hnS
  have HR : GT.raw y = ⟨.pointer none, .pointer none, .bool true, .int .i64 y.val, .int .i64 y.sec, .int .u64 y.set, gmustV y.mu⟩ := by unfold GT.raw; rw [HP]
  have hkx : (th.map GT.raw)[t]? = some (GT.raw y) := by simp [HX]
  rw [HR] at hkx
  have dd2 := (r2.cells hkx).2.2.1
  simp only at dd2
  have z2 := r2.free (2 + t * 7 + 2)
  have p2 := r2.set hkx ⟨.pointer none, .pointer none, .bool false, .int .i64 y.val, .int .i64 y.sec, .int .u64 y.set, gmustV y.mu⟩ (j := 2) (by decide) (.bool false) rfl
  have k3 : Keep (fun k => k = rb) w2 (w2.setCell ⟨rb, 2 + t * 7 + 2, none⟩ (.bool false)) := Keep.setCell (S := fun k => k = rb) (p := ⟨rb, 2 + t * 7 + 2, none⟩) (Keep.refl _ w2) (.inl rfl) _
  have nF2 : ¬ F2 rb := fun e => (f2 rb e).elim H.frb (fun h => by have := lt_of_block H.run; omega)
  refine ⟨rfl, z2, dd2, F2, mdel ml t, ws.set c (cntIn c (th.map GT.abs) - 1), th.set t { y with p := .idle }, log ++ [⟨t, c, 3, cntIn c (th.map GT.abs), cntIn c (th.map GT.abs) - 1, false⟩], ?_, ?_, ?_, ?_⟩
  rotate_left
  · exact (show (⟨ws.set c (wat ws c - 1), (th.map GT.abs).set t { y.abs with p := .idle }⟩ : GS) = ⟨ws.set c (cntIn c (th.map GT.abs) - 1), (th.set t { y with p := .idle }).map GT.abs⟩ by rw [wat_of hv, map_set']; rfl)
  · exact (hI.exit (abs_at HX) hp).mono (by omega)
  rotate_left
  · refine H.upd HX _ ((k2.mono (T := fun k => F k ∨ k = r ∨ k = rb) (fun k _ e => e.elim .inl (fun e => .inr (.inl e)))).trans k3 (fun k _ e => .inr (.inr e))) (fun k e _ => ?_) (m2.keep k3 (fun k hk e => nF2 (e ▸ hk))) f2 (g2.keep k3 (fun e => d1' e.symm) (fun e => d2' e.symm)) ?_ ⟨fun _ _ _ hc => by simp at hc, fun _ _ hc => by simp at hc, fun _ _ _ _ _ _ _ hc => by simp at hc, fun qb l hq => ?_⟩ (fun k hk => ?_) (fun k => ?_) (mkeys_del_nodup H.nd _) (by simp) (fun _ _ _ _ _ _ _ hc => by simp at hc)
    · rcases e with e | e | e
      · exact .inl e
      · exact .inr (.inl e)
      · exact .inr (.inr (.inl e))
    · rw [map_set']; exact p2
    · obtain ⟨q1, q2, q3⟩ := (H.thr t y HX).mu qb l hq
      have bq := H.blk t y qb HX (.inr ⟨l, hq⟩)
      exact ⟨k3.at (k2.at q1 (fun e => e.elim bq.1 bq.2.2.2.2.2)) bq.2.2.2.1, q2, fun e => e⟩
    · have hh : y.has k := hk.elim (fun e => e.elim) .inr
      exact ⟨by have := (H.blk t y k HX hh).2.2.1; have := k2.size; have := k3.size; omega, .inl hh⟩
    · rw [mlook_del H.nd]; rfl
  · simp; omega
theorem GGood.more (h : GGood w rb g r mb n k s wr) {k' : Nat} (hk : k ≤ k') : GGood w rb g r mb n k' s wr := by
  obtain ⟨F, ml, ws, th, log, h1, h2, h3, h4⟩ := h
  exact ⟨F, ml, ws, th, log, h1, h2, h3.mono (by omega), by omega⟩
set_option maxRecDepth 100000 in
set_option maxHeartbeats 8000000 in
theorem holds_ok (w0 : World) (hk0 : Keep Nil w0 w) : Calls Try.prog 52 #[] w fun e w' => e = .returned (.bool true) ∧ Keep Nil w0 w' := by
  have HB := hid (gbegin_run w0 hk0 1 (by decide) (by decide))
  clear hk0
  go_enter Try.func52, Try.ntmps52
  go_wp2_with fail
  refine HB.out.mono ?_
  rintro e w1 ⟨rb, g, r, mb, rfl, hr⟩
  have R1 := hid (show GGood w0 rb g r mb 1 0 (hA 0) w1 from hr)
  clear hr HB
  go_wp2
  go_loopw [2] (fun i wr => ∃ k : Nat, k ≤ 2 ∧ i = .int .i64 k ∧ Hid (GGood w0 rb g r mb 1 k (hA k) wr)) (fun i _ => 4 - (intOf i).toNat)
  case atStart => exact ⟨0, by omega, rfl, R1⟩
  case round =>
    obtain ⟨k, hk, rfl, HR⟩ := hrel
    clear R1
    by_cases h2 : k < 2
    · have c4 : wr.cell? ⟨rb, 4, none⟩ = some (.bool false) := by
        have : k = 0 ∨ k = 1 := by omega
        rcases this with rfl | rfl
        · exact HR.out.cIn (t := 0) (x := ga0) rfl
        · exact HR.out.cIn (t := 0) (x := ⟨.ent (some 1), 3, 0, 0, []⟩) rfl
      have HA := hid (show Calls Try.prog 50 #[ptr rb, .int .i64 0, .int .u8 0, .int .i64 3, .int .u64 1] wr fun e w' => e = .returned (.bool true) ∧ GGood w0 rb g r mb 1 (k + 1) (hA (k + 1)) w' from by
        have := gact_good HR.out (by decide) (by omega) (t := 0) (by decide) 0 3 1 (by decide) (by decide) (by decide) (by decide)
        have e : GS.act 1 (hA k) 0 0 3 1 = hA (k + 1) := by
          have : k = 0 ∨ k = 1 := by omega
          rcases this with rfl | rfl
          · exact hA_0
          · exact hA_1
        rw [e] at this
        exact this)
      clear HR
      go_wp2_with fail
      refine HA.out.mono ?_
      rintro e w2 ⟨rfl, hq⟩
      have HQ := hid hq
      clear hq HA c4
      go_wp2
      go_roundw
      case rel => exact ⟨k + 1, by omega, by go_num, HQ⟩
      case measure => simp [intOf]; omega
    · obtain rfl : k = 2 := by omega
      rw [show ((2 : Nat) : Int) = 2 from rfl]
      have c4 : wr.cell? ⟨rb, 4, none⟩ = some (.bool true) := HR.out.cIn (t := 0) (x := hI) rfl
      have R2 := hid (show GGood w0 rb g r mb 1 2 (hB 0) wr from HR.out)
      clear HR h2 hk
      go_wp2
      go_loopw [3] (fun i wr => ∃ k : Nat, k ≤ 40 ∧ i = .int .i64 k ∧ Hid (GGood w0 rb g r mb 1 (2 + k) (hB k) wr)) (fun i _ => 40 - (intOf i).toNat)
      case atStart => exact ⟨0, by omega, rfl, R2⟩
      case round =>
        obtain ⟨k, hk, rfl, HR⟩ := hrel
        clear R2 c4
        by_cases hlt : k < 40
        · have HA := hid (show Calls Try.prog 50 #[ptr rb, .int .i64 1, .int .u8 2, .int .i64 0, .int .u64 8] wr fun e w' => e = .returned (.bool true) ∧ GGood w0 rb g r mb 1 (2 + (k + 1)) (hB (k + 1)) w' from by
            have := gact_good HR.out (by decide) (by omega) (t := 1) (by decide) 2 0 8 (by decide) (by decide) (by decide) (by decide)
            rw [hB_step k] at this
            exact this)
          clear HR
          go_wp2_with fail
          refine HA.out.mono ?_
          rintro e w3 ⟨rfl, hq⟩
          obtain ⟨b, cb⟩ := hq.cWt (t := 1) (x := ⟨.wt (min (k + 1) 4) 0 [0], 0, 0, 8, [1, 0, 0, 0, 0, 0]⟩) rfl rfl
          have c10 : w3.cell? ⟨rb, 10, none⟩ = some (.pointer (some ⟨b, 0, none⟩)) := cb
          have HQ := hid hq
          clear hq cb HA
          go_wp2
          go_roundw
          case rel => exact ⟨k + 1, by omega, by go_num, HQ⟩
          case measure => simp [intOf]; omega
        · obtain rfl : k = 40 := by omega
          rw [show ((40 : Nat) : Int) = 40 from rfl]
          have cg : wr.cell? ⟨rb, 1, none⟩ = some (.pointer (some ⟨g, 0, none⟩)) := HR.out.top.2
          have HE := hid (gexit_run HR.out (t := 0) (by decide) (x := hI) rfl (c := 1) rfl (by decide))
          clear HR hlt hk
          go_wp2_with fail
          refine HE.out.mono ?_
          rintro e w4 ⟨rfl, z4, c4, hq⟩
          have z4' : w4.frozen? ⟨rb, 4, none⟩ = false := z4
          have c4' : w4.cell? ⟨rb, 4, none⟩ = some (.bool true) := c4
          have R5 := hid (show GGood w0 rb g r mb 1 43 (hC 0) (w4.setCell ⟨rb, 4, none⟩ (.bool false)) from hq)
          clear hq z4 c4 HE cg
          go_wp2
          go_loopw [6] (fun i wr => ∃ k : Nat, k ≤ 2 ∧ i = .int .i64 k ∧ Hid (GGood w0 rb g r mb 1 (43 + k) (hC k) wr)) (fun i _ => 40 - (intOf i).toNat)
          case atStart => exact ⟨0, by omega, rfl, R5⟩
          case round =>
            obtain ⟨k, hk, rfl, HR⟩ := hrel
            clear R5 z4' c4'
            by_cases hlt : k < 2
            · obtain ⟨b, cb⟩ := HR.out.cWt (t := 1) (x := ⟨if k < 2 then .wt (4 + k) 0 [0] else .idle, 0, 0, 8, [1, 0, 0, 0, 0, 0]⟩) rfl (by simp only; rw [if_pos hlt]; rfl)
              have c10 : wr.cell? ⟨rb, 10, none⟩ = some (.pointer (some ⟨b, 0, none⟩)) := cb
              have HA := hid (show Calls Try.prog 50 #[ptr rb, .int .i64 1, .int .u8 2, .int .i64 0, .int .u64 8] wr fun e w' => e = .returned (.bool true) ∧ GGood w0 rb g r mb 1 (43 + (k + 1)) (hC (k + 1)) w' from by
                have := gact_good HR.out (by decide) (by omega) (t := 1) (by decide) 2 0 8 (by decide) (by decide) (by decide) (by decide)
                rw [hC_step k hlt] at this
                exact this)
              clear HR cb
              go_wp2_with fail
              refine HA.out.mono ?_
              rintro e w3 ⟨rfl, hq⟩
              have HQ := hid hq
              clear hq HA c10
              go_wp2
              go_roundw
              case rel => exact ⟨k + 1, by omega, by go_num, HQ⟩
              case measure => simp [intOf]; omega
            · obtain rfl : k = 2 := by omega
              rw [show ((2 : Nat) : Int) = 2 from rfl]
              have c10 : wr.cell? ⟨rb, 10, none⟩ = some (.pointer none) := HR.out.cNoWt (t := 1) (x := ⟨.idle, 0, 0, 8, [1, 0, 0, 0, 0, 0]⟩) rfl rfl
              have HO := hid HR.out.own
              clear HR hlt hk
              go_wp2
              go_ret
              exact ⟨rfl, HO.out⟩
end
end Go.Proofs.Ytihgfklajhhikaa
