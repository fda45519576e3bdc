
/- GateStep, GateEnt, GateWt, GateP, in one text. -/
import Derived.Test.YtldjlcdccnnogaaGreatGateWait
import Derived.Test.YtldjlcdccnnogaaGreatGatePl2
import Derived.Deep.LoopGhost
import Derived.Test.YtldjlcdccnnogaaGreatGateSt

/-! gate: Wait.Step, Next; Enter.Step, Next: contracts over what the states' functions do. -/
set_option linter.unusedVariables false
set_option linter.unusedSimpArgs false
namespace Go.Proofs.YtldjlcdccnnogaaGreat
open Go.RowKit Go.Lf
theorem s_eqf (w : World) (f : Fn) (x y : Array Value) : (binOp .eql 303 (.func f x y) .nilFunc).run Tryz.prog w = .ok (.bool false) w := run_eql_func w Tryz.underlying303 f x y
theorem s_eqn (w : World) : (binOp .eql 303 .nilFunc .nilFunc).run Tryz.prog w = .ok (.bool true) w := run_eql_nilf w Tryz.underlying303
attribute [local go_sem] s_eqf s_eqn
section
variable {w : World} {g mb wb : Nat} {F : Nat → Prop} {base : Int} {ws : List Int} {log : List Acc} {t side : Int} {lv lp : Value} {st : Nat}
set_option maxHeartbeats 1000000 in
theorem gwnext_any (hw : GHead w wb g t lv lp side st) : Calls Tryz.prog 209 #[ptr wb] w fun e w' => e = .returned (.int .u8 (gpc st)) ∧ w = w' := by
  have p5 := hw.cells.2.2.2.2.2.1
  clear hw
  go_enter Tryz.func209, Tryz.ntmps209
  go_wp2
  go_ret
  exact ⟨rfl, rfl⟩
theorem gwnext_nil : Calls Tryz.prog 209 #[.pointer none] w fun e w' => e = .returned (.int .u8 0) ∧ w = w' := by
  go_enter Tryz.func209, Tryz.ntmps209
  go_wp2
  go_ret
  exact ⟨rfl, rfl⟩
theorem gwstep_nil : Calls Tryz.prog 210 #[.pointer none] w fun e w' => e = .returned (.tuple #[.int .u8 0, .bool false]) ∧ w = w' := by
  go_enter Tryz.func210, Tryz.ntmps210
  go_wp2
  go_ret2
  exact ⟨rfl, rfl⟩
theorem gwstep_over (hw : GHead w wb g t lv lp side st) (h : 6 ≤ st) : Calls Tryz.prog 210 #[ptr wb] w fun e w' => e = .returned (.tuple #[.int .u8 0, .bool false]) ∧ w = w' := by
  have p5 := hw.cells.2.2.2.2.2.1
  have p6 := hw.cells.2.2.2.2.2.2
  obtain ⟨k, rfl⟩ : ∃ k, st = 6 + k := ⟨st - 6, by omega⟩
  rw [show gfn (6 + k) = .nilFunc by rw [Nat.add_comm]; rfl] at p6
  clear hw
  go_enter Tryz.func210, Tryz.ntmps210
  go_wp2
  go_ret2
  exact ⟨rfl, rfl⟩
/-- The wait's block at another state. -/
theorem GHead.at {w1 : World} {lv' lp' : Value} {side' : Int} {st0 : Nat} (h : GHead w1 wb g t lv' lp' side' st0) (k : Nat) (p : Int) (f : Value) (hp : p = gpc k) (hf : f = gfn k) : GHead ((w1.setCell ⟨wb, 5, none⟩ (.int .u8 p)).setCell ⟨wb, 6, none⟩ f) wb g t lv' lp' side' k := by
  subst hp; subst hf
  exact set_same (i := 6) (set_same (i := 5) h _) _
theorem keep_set56 (w : World) (b : Nat) (u v : Value) : Keep (fun k => k = b) w ((w.setCell ⟨b, 5, none⟩ u).setCell ⟨b, 6, none⟩ v) :=
  Keep.setCell (S := fun k => k = b) (p := ⟨b, 6, none⟩) (Keep.setCell (S := fun k => k = b) (p := ⟨b, 5, none⟩) (Keep.refl _ w) (.inl rfl) u) (.inl rfl) v
/-- A step of a wait: the state's function is called, and its state stored. -/
def GStepTo (Q : World → Prop) (wb g : Nat) (t : Int) (k : Nat) (w' : World) : Prop := ∃ w1, Q w1 ∧ Keep (fun k => k = wb) w1 w' ∧ ∀ lv lp side st0, GHead w1 wb g t lv lp side st0 → GHead w' wb g t lv lp side k
set_option maxRecDepth 100000 in
set_option maxHeartbeats 2000000 in
theorem gwstep0 {Q : World → Prop} (hw : GHead w wb g t lv lp side 0) (k : Nat) (hQ : ∀ w1, Q w1 → ∃ lv lp side st0, GHead w1 wb g t lv lp side st0) (hk : k ≤ 6) (hc : Calls Tryz.prog 169 #[ptr wb] w fun e w' => e = .returned (.agg #[.int .u8 (gpc k), gfn k]) ∧ Q w') :
    Calls Tryz.prog 210 #[ptr wb] w fun e w' => e = .returned (.tuple #[.int .u8 2, .bool (k == 6)]) ∧ GStepTo Q wb g t k w' := by
  have p5 := hw.cells.2.2.2.2.2.1
  have p6 := hw.cells.2.2.2.2.2.2
  simp only [gpc, gfn] at p5 p6
  have HC := hid hc
  have HQ := hid hQ
  clear hw hc hQ
  have hk' : k = 0 ∨ k = 1 ∨ k = 2 ∨ k = 3 ∨ k = 4 ∨ k = 5 ∨ k = 6 := by omega
  clear hk
  rcases hk' with rfl | rfl | rfl | rfl | rfl | rfl | rfl
  all_goals
    simp only [gpc, gfn] at HC
    go_enter Tryz.func210, Tryz.ntmps210
    go_wp2_with fail
    refine HC.out.mono ?_
    rintro e w1 ⟨rfl, hq⟩
    obtain ⟨lv1, lp1, side1, st1, hd⟩ := HQ.out w1 hq
    have z5 : w1.frozen? ⟨wb, 5, none⟩ = false := free_of hd 5
    have z6 : w1.frozen? ⟨wb, 6, none⟩ = false := free_of hd 6
    have y5 := cell_of hd 5
    have y6 := cell_of hd 6
    have QQ := hid hq
    clear hq hd HC HQ p5 p6
    go_wp2
    go_quiet (fail)
    go_wp2
    go_ret2
    exact ⟨rfl, w1, QQ.out, (keep_set56 w1 wb _ _).drewN nq, fun lv lp side st0 h => h.at _ _ _ rfl rfl⟩
set_option maxRecDepth 100000 in
set_option maxHeartbeats 2000000 in
theorem gwstep1 {Q : World → Prop} (hw : GHead w wb g t lv lp side 1) (k : Nat) (hQ : ∀ w1, Q w1 → ∃ lv lp side st0, GHead w1 wb g t lv lp side st0) (hk : k ≤ 6) (hc : Calls Tryz.prog 174 #[ptr wb] w fun e w' => e = .returned (.agg #[.int .u8 (gpc k), gfn k]) ∧ Q w') :
    Calls Tryz.prog 210 #[ptr wb] w fun e w' => e = .returned (.tuple #[.int .u8 15, .bool (k == 6)]) ∧ GStepTo Q wb g t k w' := by
  have p5 := hw.cells.2.2.2.2.2.1
  have p6 := hw.cells.2.2.2.2.2.2
  simp only [gpc, gfn] at p5 p6
  have HC := hid hc
  have HQ := hid hQ
  clear hw hc hQ
  have hk' : k = 0 ∨ k = 1 ∨ k = 2 ∨ k = 3 ∨ k = 4 ∨ k = 5 ∨ k = 6 := by omega
  clear hk
  rcases hk' with rfl | rfl | rfl | rfl | rfl | rfl | rfl
  all_goals
    simp only [gpc, gfn] at HC
    go_enter Tryz.func210, Tryz.ntmps210
    go_wp2_with fail
    refine HC.out.mono ?_
    rintro e w1 ⟨rfl, hq⟩
    obtain ⟨lv1, lp1, side1, st1, hd⟩ := HQ.out w1 hq
    have z5 : w1.frozen? ⟨wb, 5, none⟩ = false := free_of hd 5
    have z6 : w1.frozen? ⟨wb, 6, none⟩ = false := free_of hd 6
    have y5 := cell_of hd 5
    have y6 := cell_of hd 6
    have QQ := hid hq
    clear hq hd HC HQ p5 p6
    go_wp2
    go_quiet (fail)
    go_wp2
    go_ret2
    exact ⟨rfl, w1, QQ.out, (keep_set56 w1 wb _ _).drewN nq, fun lv lp side st0 h => h.at _ _ _ rfl rfl⟩
set_option maxRecDepth 100000 in
set_option maxHeartbeats 2000000 in
theorem gwstep2 {Q : World → Prop} (hw : GHead w wb g t lv lp side 2) (k : Nat) (hQ : ∀ w1, Q w1 → ∃ lv lp side st0, GHead w1 wb g t lv lp side st0) (hk : k ≤ 6) (hc : Calls Tryz.prog 178 #[ptr wb] w fun e w' => e = .returned (.agg #[.int .u8 (gpc k), gfn k]) ∧ Q w') :
    Calls Tryz.prog 210 #[ptr wb] w fun e w' => e = .returned (.tuple #[.int .u8 19, .bool (k == 6)]) ∧ GStepTo Q wb g t k w' := by
  have p5 := hw.cells.2.2.2.2.2.1
  have p6 := hw.cells.2.2.2.2.2.2
  simp only [gpc, gfn] at p5 p6
  have HC := hid hc
  have HQ := hid hQ
  clear hw hc hQ
  have hk' : k = 0 ∨ k = 1 ∨ k = 2 ∨ k = 3 ∨ k = 4 ∨ k = 5 ∨ k = 6 := by omega
  clear hk
  rcases hk' with rfl | rfl | rfl | rfl | rfl | rfl | rfl
  all_goals
    simp only [gpc, gfn] at HC
    go_enter Tryz.func210, Tryz.ntmps210
    go_wp2_with fail
    refine HC.out.mono ?_
    rintro e w1 ⟨rfl, hq⟩
    obtain ⟨lv1, lp1, side1, st1, hd⟩ := HQ.out w1 hq
    have z5 : w1.frozen? ⟨wb, 5, none⟩ = false := free_of hd 5
    have z6 : w1.frozen? ⟨wb, 6, none⟩ = false := free_of hd 6
    have y5 := cell_of hd 5
    have y6 := cell_of hd 6
    have QQ := hid hq
    clear hq hd HC HQ p5 p6
    go_wp2
    go_quiet (fail)
    go_wp2
    go_ret2
    exact ⟨rfl, w1, QQ.out, (keep_set56 w1 wb _ _).drewN nq, fun lv lp side st0 h => h.at _ _ _ rfl rfl⟩
set_option maxRecDepth 100000 in
set_option maxHeartbeats 2000000 in
theorem gwstep3 {Q : World → Prop} (hw : GHead w wb g t lv lp side 3) (k : Nat) (hQ : ∀ w1, Q w1 → ∃ lv lp side st0, GHead w1 wb g t lv lp side st0) (hk : k ≤ 6) (hc : Calls Tryz.prog 181 #[ptr wb] w fun e w' => e = .returned (.agg #[.int .u8 (gpc k), gfn k]) ∧ Q w') :
    Calls Tryz.prog 210 #[ptr wb] w fun e w' => e = .returned (.tuple #[.int .u8 20, .bool (k == 6)]) ∧ GStepTo Q wb g t k w' := by
  have p5 := hw.cells.2.2.2.2.2.1
  have p6 := hw.cells.2.2.2.2.2.2
  simp only [gpc, gfn] at p5 p6
  have HC := hid hc
  have HQ := hid hQ
  clear hw hc hQ
  have hk' : k = 0 ∨ k = 1 ∨ k = 2 ∨ k = 3 ∨ k = 4 ∨ k = 5 ∨ k = 6 := by omega
  clear hk
  rcases hk' with rfl | rfl | rfl | rfl | rfl | rfl | rfl
  all_goals
    simp only [gpc, gfn] at HC
    go_enter Tryz.func210, Tryz.ntmps210
    go_wp2_with fail
    refine HC.out.mono ?_
    rintro e w1 ⟨rfl, hq⟩
    obtain ⟨lv1, lp1, side1, st1, hd⟩ := HQ.out w1 hq
    have z5 : w1.frozen? ⟨wb, 5, none⟩ = false := free_of hd 5
    have z6 : w1.frozen? ⟨wb, 6, none⟩ = false := free_of hd 6
    have y5 := cell_of hd 5
    have y6 := cell_of hd 6
    have QQ := hid hq
    clear hq hd HC HQ p5 p6
    go_wp2
    go_quiet (fail)
    go_wp2
    go_ret2
    exact ⟨rfl, w1, QQ.out, (keep_set56 w1 wb _ _).drewN nq, fun lv lp side st0 h => h.at _ _ _ rfl rfl⟩
set_option maxRecDepth 100000 in
set_option maxHeartbeats 2000000 in
theorem gwstep4 {Q : World → Prop} (hw : GHead w wb g t lv lp side 4) (k : Nat) (hQ : ∀ w1, Q w1 → ∃ lv lp side st0, GHead w1 wb g t lv lp side st0) (hk : k ≤ 6) (hc : Calls Tryz.prog 183 #[ptr wb] w fun e w' => e = .returned (.agg #[.int .u8 (gpc k), gfn k]) ∧ Q w') :
    Calls Tryz.prog 210 #[ptr wb] w fun e w' => e = .returned (.tuple #[.int .u8 19, .bool (k == 6)]) ∧ GStepTo Q wb g t k w' := by
  have p5 := hw.cells.2.2.2.2.2.1
  have p6 := hw.cells.2.2.2.2.2.2
  simp only [gpc, gfn] at p5 p6
  have HC := hid hc
  have HQ := hid hQ
  clear hw hc hQ
  have hk' : k = 0 ∨ k = 1 ∨ k = 2 ∨ k = 3 ∨ k = 4 ∨ k = 5 ∨ k = 6 := by omega
  clear hk
  rcases hk' with rfl | rfl | rfl | rfl | rfl | rfl | rfl
  all_goals
    simp only [gpc, gfn] at HC
    go_enter Tryz.func210, Tryz.ntmps210
    go_wp2_with fail
    refine HC.out.mono ?_
    rintro e w1 ⟨rfl, hq⟩
    obtain ⟨lv1, lp1, side1, st1, hd⟩ := HQ.out w1 hq
    have z5 : w1.frozen? ⟨wb, 5, none⟩ = false := free_of hd 5
    have z6 : w1.frozen? ⟨wb, 6, none⟩ = false := free_of hd 6
    have y5 := cell_of hd 5
    have y6 := cell_of hd 6
    have QQ := hid hq
    clear hq hd HC HQ p5 p6
    go_wp2
    go_quiet (fail)
    go_wp2
    go_ret2
    exact ⟨rfl, w1, QQ.out, (keep_set56 w1 wb _ _).drewN nq, fun lv lp side st0 h => h.at _ _ _ rfl rfl⟩
set_option maxRecDepth 100000 in
set_option maxHeartbeats 2000000 in
theorem gwstep5 {Q : World → Prop} (hw : GHead w wb g t lv lp side 5) (k : Nat) (hQ : ∀ w1, Q w1 → ∃ lv lp side st0, GHead w1 wb g t lv lp side st0) (hk : k ≤ 6) (hc : Calls Tryz.prog 184 #[ptr wb] w fun e w' => e = .returned (.agg #[.int .u8 (gpc k), gfn k]) ∧ Q w') :
    Calls Tryz.prog 210 #[ptr wb] w fun e w' => e = .returned (.tuple #[.int .u8 3, .bool (k == 6)]) ∧ GStepTo Q wb g t k w' := by
  have p5 := hw.cells.2.2.2.2.2.1
  have p6 := hw.cells.2.2.2.2.2.2
  simp only [gpc, gfn] at p5 p6
  have HC := hid hc
  have HQ := hid hQ
  clear hw hc hQ
  have hk' : k = 0 ∨ k = 1 ∨ k = 2 ∨ k = 3 ∨ k = 4 ∨ k = 5 ∨ k = 6 := by omega
  clear hk
  rcases hk' with rfl | rfl | rfl | rfl | rfl | rfl | rfl
  all_goals
    simp only [gpc, gfn] at HC
    go_enter Tryz.func210, Tryz.ntmps210
    go_wp2_with fail
    refine HC.out.mono ?_
    rintro e w1 ⟨rfl, hq⟩
    obtain ⟨lv1, lp1, side1, st1, hd⟩ := HQ.out w1 hq
    have z5 : w1.frozen? ⟨wb, 5, none⟩ = false := free_of hd 5
    have z6 : w1.frozen? ⟨wb, 6, none⟩ = false := free_of hd 6
    have y5 := cell_of hd 5
    have y6 := cell_of hd 6
    have QQ := hid hq
    clear hq hd HC HQ p5 p6
    go_wp2
    go_quiet (fail)
    go_wp2
    go_ret2
    exact ⟨rfl, w1, QQ.out, (keep_set56 w1 wb _ _).drewN nq, fun lv lp side st0 h => h.at _ _ _ rfl rfl⟩
end
end Go.Proofs.YtldjlcdccnnogaaGreat

/-! gate: the operation Enter: Next, Step; Open; Wait: contracts. -/
set_option linter.unusedVariables false
set_option linter.unusedSimpArgs false
namespace Go.Proofs.YtldjlcdccnnogaaGreat
open Go.RowKit Go.Lf
section
variable {w : World} {g r mb eb sb : Nat} {F : Nat → Prop} {base : Int} {n : Nat} {ml : List (Int × Value)} {ws : List Int} {log : List Acc} {t a c : Int}
theorem GEnterAt.cells (h : GEnterAt w eb mb t a sb) : w.cell? ⟨eb, 0, none⟩ = some (ptr mb) ∧ w.cell? ⟨eb, 1, none⟩ = some (.int .i64 t) ∧ w.cell? ⟨eb, 2, none⟩ = some (.int .i64 a) ∧ w.cell? ⟨eb, 3, none⟩ = some (.int .i64 (a + 1)) ∧ w.cell? ⟨eb, 4, none⟩ = some (.int .i64 (a + 2)) ∧ w.cell? ⟨eb, 6, none⟩ = some (ptr sb) := by
  refine ⟨?_, ?_, ?_, ?_, ?_, ?_⟩ <;> (rw [cell_of h]; rfl)
theorem SecAt.cells {e : Bool} (h : SecAt w sb c e) : w.cell? ⟨sb, 0, none⟩ = some (.int .i64 c) ∧ w.cell? ⟨sb, 1, none⟩ = some (.bool e) := by
  refine ⟨?_, ?_⟩ <;> (rw [cell_of h]; rfl)
/-- What an Enter does next. -/
def gepc (c : Int) (e : Bool) : Int := if e then 0 else if c < 0 then 15 else 16
set_option maxHeartbeats 1000000 in
theorem genext_any {e : Bool} (h : GEnterAt w eb mb t a sb) (hs : SecAt w sb c e) : Calls Tryz.prog 207 #[ptr eb] w fun en w' => en = .returned (.int .u8 (gepc c e)) ∧ w = w' := by
  obtain ⟨p0, p1, p2, p3, p4, p6⟩ := h.cells
  obtain ⟨s0, s1⟩ := hs.cells
  clear h hs p0 p1 p2 p3 p4
  cases e with
  | true =>
    rw [show gepc c true = 0 from rfl]
    go_enter Tryz.func207, Tryz.ntmps207
    go_wp2
    go_ret
    exact ⟨rfl, rfl⟩
  | false =>
    by_cases hc : c < 0
    · rw [show gepc c false = 15 from if_pos hc]
      have d1 : decide (c < 0) = true := decide_eq_true hc
      clear hc
      go_enter Tryz.func207, Tryz.ntmps207
      go_wp2
      go_ret
      exact ⟨rfl, rfl⟩
    · rw [show gepc c false = 16 from if_neg hc]
      have d1 : decide (c < 0) = false := decide_eq_false hc
      clear hc
      go_enter Tryz.func207, Tryz.ntmps207
      go_wp2
      go_ret
      exact ⟨rfl, rfl⟩
theorem genext_nil : Calls Tryz.prog 207 #[.pointer none] w fun e w' => e = .returned (.int .u8 0) ∧ w = w' := by
  go_enter Tryz.func207, Tryz.ntmps207
  go_wp2
  go_ret
  exact ⟨rfl, rfl⟩
/-- Behind a step of an Enter: the memory and the section. -/
def GEnSt (w : World) (sb mb : Nat) (F : Nat → Prop) (c : Int) (e : Bool) (ws : List Int) (log : List Acc) (w' : World) : Prop :=
  ∃ F', MemAt w' mb F' ws log ∧ SecAt w' sb c e ∧ Keep (fun k => F k ∨ k = sb) w w' ∧ Foot w F F'
theorem gens_mk {w3 : World} {F3 : Nat → Prop} {c0 : Int} {e0 : Bool} {ws' : List Int} {log' : List Acc} (m3 : MemAt w3 mb F3 ws' log') (s3 : SecAt w3 sb c0 e0) (kc : Keep F w w3) (f3 : Foot w F F3) (nf : ¬ F3 sb) (u c : Int) (h : u = c) :
    GEnSt w sb mb F c e0 ws' log' ((w3.setCell ⟨sb, 0, none⟩ (.int .i64 u)).drew) := by
  have kf : Keep (fun k => k = sb) w3 ((w3.setCell ⟨sb, 0, none⟩ (.int .i64 u)).drew) := (Keep.setCell (S := fun k => k = sb) (p := ⟨sb, 0, none⟩) (Keep.refl _ w3) (.inl rfl) _).drew
  subst h
  exact ⟨F3, m3.keep kf (fun k hk e => nf (e ▸ hk)), set_same (i := 0) s3 (.int .i64 u), (kc.mono (T := fun k => F k ∨ k = sb) (fun _ _ h => .inl h)).trans kf (fun _ _ h => .inr h), f3⟩
theorem gens_mk1 {w3 : World} {F3 : Nat → Prop} {c0 : Int} {e0 : Bool} {ws' : List Int} {log' : List Acc} (m3 : MemAt w3 mb F3 ws' log') (s3 : SecAt w3 sb c0 e0) (kc : Keep F w w3) (f3 : Foot w F F3) (nf : ¬ F3 sb) :
    GEnSt w sb mb F c0 true ws' log' (w3.setCell ⟨sb, 1, none⟩ (.bool true)) := by
  have kf : Keep (fun k => k = sb) w3 (w3.setCell ⟨sb, 1, none⟩ (.bool true)) := Keep.setCell (S := fun k => k = sb) (p := ⟨sb, 1, none⟩) (Keep.refl _ w3) (.inl rfl) _
  exact ⟨F3, m3.keep kf (fun k hk e => nf (e ▸ hk)), set_same (i := 1) s3 (.bool true), (kc.mono (T := fun k => F k ∨ k = sb) (fun _ _ h => .inl h)).trans kf (fun _ _ h => .inr h), f3⟩
theorem gestep_nil : Calls Tryz.prog 208 #[.pointer none] w fun e w' => e = .returned (.tuple #[.int .u8 0, .bool false]) ∧ w = w' := by
  go_enter Tryz.func208, Tryz.ntmps208
  go_wp2_with fail
  refine genext_nil.mono ?_
  rintro e w' ⟨rfl, rfl⟩
  go_wp2
  go_ret2
  exact ⟨rfl, rfl⟩
set_option maxHeartbeats 1000000 in
theorem gestep_idle (h : GEnterAt w eb mb t a sb) (hs : SecAt w sb c true) : Calls Tryz.prog 208 #[ptr eb] w fun e w' => e = .returned (.tuple #[.int .u8 0, .bool false]) ∧ w = w' := by
  have HN := hid (genext_any h hs)
  rw [show gepc c true = 0 from rfl] at HN
  clear h hs
  go_enter Tryz.func208, Tryz.ntmps208
  go_wp2_with fail
  refine HN.out.mono ?_
  rintro e w' ⟨rfl, rfl⟩
  go_wp2
  go_ret2
  exact ⟨rfl, rfl⟩
set_option maxRecDepth 100000 in
set_option maxHeartbeats 4000000 in
theorem gestep_gate (hm : MemAt w mb F ws log) (h : GEnterAt w eb mb t a sb) (hs : SecAt w sb (-1) false) (fe : ¬ F eb) (fs : ¬ F sb) (t0 : 0 ≤ t) (t1 : t < 64) (a0 : 0 ≤ a) (x : Nat) (hx : ws[a.toNat]? = some (x : Int)) (hlog : log.length < 1000000000000) :
    Calls Tryz.prog 208 #[ptr eb] w fun e w' => e = .returned (.tuple #[.int .u8 15, .bool false]) ∧ GEnSt w sb mb F (a + 1 + (x % 2 : Nat)) false ws (log ++ [⟨t, a, 1, x, x, false⟩]) w' := by
  have HN := hid (genext_any h hs)
  rw [show gepc (-1) false = 15 from rfl] at HN
  obtain ⟨p0, p1, p2, p3, p4, p6⟩ := h.cells
  have HM := hid hm
  have H := hid h
  have HS := hid hs
  have HX := hid hx
  have FE := hid fe
  have FS := hid fs
  have KD := hid ((Keep.refl Nil w).drew)
  have nes : ¬ eb = sb := gtype_ne h hs (by decide)
  have tm : (x : Int).tmod 2 = ((x % 2 : Nat) : Int) := by rw [Int.tmod_eq_emod_of_nonneg (by omega)]; omega
  have hz : w.heap.size ≤ w.drew.heap.size := Nat.le_refl _
  obtain ⟨m, hmm⟩ : ∃ m, m = x % 2 := ⟨_, rfl⟩
  rw [← hmm] at tm ⊢
  have m2 : m = 0 ∨ m = 1 := by omega
  obtain ⟨xi, hxi⟩ : ∃ xi : Int, xi = (x : Int) := ⟨_, rfl⟩
  rw [← hxi] at tm HX ⊢
  have xi0 : 0 ≤ xi := by omega
  clear hm h hs hx fe fs hmm hxi
  rcases m2 with rfl | rfl
  all_goals
    have wr1 : IntKind.u64.wrap 1 = 1 := rfl
    have wr2 : IntKind.u64.wrap 2 = 2 := rfl
    go_enter Tryz.func208, Tryz.ntmps208
    go_wp2_with fail
    refine HN.out.mono ?_
    rintro e w' ⟨rfl, rfl⟩
    go_wp2
    go_region_held3 (fun w' => w'.cell? ⟨eb, 0, none⟩ = some (.pointer (some ⟨mb, 0, none⟩)) ∧ w'.cell? ⟨eb, 1, none⟩ = some (.int .i64 t) ∧ w'.cell? ⟨eb, 2, none⟩ = some (.int .i64 a)) (go_keep)
      ((go_at_call 177; (with_reducible refine (load_ok (HM.out.keep KD.out (fun _ _ h => h)) t a xi t0 t1 a0 HX.out hlog).mono ?_); rintro e w3 ⟨rfl, F3, hm3, k3, f3⟩; have KC := hid ((KD.out.mono (T := F) (fun _ _ h => h.elim)).trans k3 (fun _ _ h => h)); have e3 := KC.out.at H.out FE.out; obtain ⟨q0, q1, q2, q3, q4, q6⟩ := GEnterAt.cells e3; have s3 := KC.out.at HS.out FS.out; have y0 := cell_of s3 0; have z0 := free_of s3 0; have S3 := hid s3; have M3 := hid hm3; have F3' := hid f3; clear hm3 k3 f3 e3 s3))
    have nf3 := hid (show ¬ F3 sb from fun hF => (F3'.out _ hF).elim FS.out (fun h => by have := lt_of_block HS.out; simp at h; omega))
    clear p0 p1 p2 p3 p4 p6 q0 q1 q2 HN
    have nk : ∀ (u : Value) (k : Nat), F3 k → ¬ k = sb := fun _ k hk e => nf3.out (e ▸ hk)
    have NK := hid nk
    clear nk
    go_wp2
    go_still_tail 14, (by kernel_rfl)
    change wpList _ _ _ _ _ w3.drew
    go_wp2
    go_ret2
    exact ⟨rfl, gens_mk M3.out S3.out KC.out F3'.out nf3.out _ _ (by simp; try omega)⟩
set_option maxRecDepth 100000 in
set_option maxHeartbeats 4000000 in
theorem gestep_count (hm : MemAt w mb F ws log) (h : GEnterAt w eb mb t a sb) (cN : Nat) (hs : SecAt w sb (cN : Int) false) (fe : ¬ F eb) (fs : ¬ F sb) (t0 : 0 ≤ t) (t1 : t < 64) (x : Int) (hx : ws[cN]? = some x) (x0 : 0 ≤ x) (x1 : x < 18446744073709551616) (hlog : log.length < 1000000000000) :
    Calls Tryz.prog 208 #[ptr eb] w fun e w' => e = .returned (.tuple #[.int .u8 16, .bool true]) ∧ GEnSt w sb mb F cN true (ws.set cN (IntKind.u64.wrap (x + 1))) (log ++ [⟨t, cN, 3, x, IntKind.u64.wrap (x + 1), false⟩]) w' := by
  have HN := hid (genext_any h hs)
  rw [show gepc (cN : Int) false = 16 by unfold gepc; rw [if_neg (by decide), if_neg (by omega)]] at HN
  obtain ⟨p0, p1, p2, p3, p4, p6⟩ := h.cells
  have s0 := hs.cells.1
  have HM := hid hm
  have H := hid h
  have HS := hid hs
  have HX := hid hx
  have FE := hid fe
  have FS := hid fs
  have KD := hid ((Keep.refl Nil w).drew)
  have nes : ¬ eb = sb := gtype_ne h hs (by decide)
  obtain ⟨su, hsu⟩ : ∃ su, su = IntKind.u64.wrap (x + 1) := ⟨_, rfl⟩
  have HSU := hid hsu
  rw [← hsu]
  clear hm h hs hx fe fs p2 p3 p4 hsu
  go_enter Tryz.func208, Tryz.ntmps208
  go_wp2_with fail
  refine HN.out.mono ?_
  rintro e w' ⟨rfl, rfl⟩
  go_wp2
  go_region_held3 (fun w' => w'.cell? ⟨eb, 0, none⟩ = some (.pointer (some ⟨mb, 0, none⟩)) ∧ w'.cell? ⟨eb, 1, none⟩ = some (.int .i64 t) ∧ w'.cell? ⟨eb, 6, none⟩ = some (.pointer (some ⟨sb, 0, none⟩)) ∧ w'.cell? ⟨sb, 0, none⟩ = some (.int .i64 cN)) (go_keep)
    ((go_at_call 163; (with_reducible refine (add_ok (HM.out.keep KD.out (fun _ _ h => h)) t cN x 1 t0 t1 (by omega) (by simpa using HX.out) x0 x1 hlog).mono ?_); rintro e w3 ⟨rfl, hq⟩; rw [← HSU.out] at hq; obtain ⟨F3, hm3, k3, f3⟩ := hq; have KC := hid ((KD.out.mono (T := F) (fun _ _ h => h.elim)).trans k3 (fun _ _ h => h)); have e3 := KC.out.at H.out FE.out; obtain ⟨q0, q1, q2, q3, q4, q6⟩ := GEnterAt.cells e3; have s3 := KC.out.at HS.out FS.out; have y0 := cell_of s3 0; have y1 := cell_of s3 1; have z1 := free_of s3 1; have S3 := hid s3; have M3 := hid hm3; have F3' := hid f3; clear hm3 k3 f3 e3 s3))
  have nf3 := hid (show ¬ F3 sb from fun hF => (F3'.out _ hF).elim FS.out (fun h => by have := lt_of_block HS.out; simp at h; omega))
  clear p0 p1 p6 q0 q1 q2 q3 q4 HN s0
  go_wp2
  go_ret2
  exact ⟨rfl, gens_mk1 (by simpa using M3.out) S3.out KC.out F3'.out nf3.out⟩

/-! Open. -/
/-- The slots below k whose sections are entered. -/
def openTo (en : Nat → Bool) (k : Nat) : List Nat := (List.range k).filter en
theorem openTo_succ (en : Nat → Bool) (k : Nat) : openTo en (k + 1) = if en k then openTo en k ++ [k] else openTo en k := by
  unfold openTo
  rw [List.range_succ, List.filter_append]
  by_cases h : en k = true <;> simp [h]
theorem openTo_len (en : Nat → Bool) (k : Nat) : (openTo en k).length ≤ k := by
  have := List.length_filter_le en (List.range k)
  simpa [openTo] using this
end
end Go.Proofs.YtldjlcdccnnogaaGreat

/-! gate: Engine.Wait begins to wait: contract. -/
set_option linter.unusedVariables false
set_option linter.unusedSimpArgs false
namespace Go.Proofs.YtldjlcdccnnogaaGreat
open Go.RowKit Go.Lf
section
variable {w : World} {g r mb eb sb : Nat} {F : Nat → Prop} {base : Int} {n : Nat} {ml : List (Int × Value)} {ws : List Int} {log : List Acc} {t a c : Int}
/-- While a wait begins: its block, and the buckets that it has found. -/
def GWB (w : World) (g : Nat) (t : Int) (l : List Nat) (wr : World) : Prop :=
  ∃ v, GHead wr w.heap.size g t v (.pointer none) 0 6 ∧ wr.ownsRow 0 3 1 v l.length (nums l) ∧ Keep Nil w wr ∧ ∀ k, v.ownBlock = some k → w.heap.size < k
theorem GWB.keep {l : List Nat} {w1 w2 : World} (h : GWB w g t l w1) (hk : Keep Nil w1 w2) : GWB w g t l w2 := by
  obtain ⟨v, h1, h2, h3, h4⟩ := h
  exact ⟨v, hk.at h1 (fun h => h), row_keep h2 hk (fun _ _ h => h), h3.trans hk (fun _ _ h => h), h4⟩
theorem GWB.start : GWB w g t [] (w.alloc (.cells #[ptr g, .int .i64 t, .slice none 0 0, .pointer none, .int .u64 0, .int .u8 0, .nilFunc] 307)) :=
  ⟨_, heap_alloc_new w _, World.ownsRow_nil _ _ _ _, (Keep.refl Nil w).alloc _, by simp [Value.ownBlock]⟩
theorem lvAt_row {w : World} {v : Value} {l : List Nat} (h : w.ownsRow 0 3 1 v l.length (nums l)) : LvAt w v l := by
  have hr := row_rd h
  rcases h.2 with ⟨h1, h2⟩ | ⟨g0, cap, cur, hv, -, -, h3, -, -, -⟩
  · exact ⟨none, 0, by rw [h1, h2], hr, by omega⟩
  · exact ⟨_, cap, hv, hr, h3⟩
theorem rd_slice {w : World} {v : Value} {m n : Nat} {xs : List Value} (h : Rd w m v n xs) : ∃ a c, v = .slice a n c := by
  obtain ⟨a, c, h1, -⟩ := h
  exact ⟨a, c, h1⟩
theorem row_block {w : World} {v : Value} {base n size : Nat} {e : TypeId} {xs : List Value} (h : w.ownsRow base e size v n xs) {k : Nat} (hk : v.ownBlock = some k) : k < w.heap.size := by
  rcases h.2 with ⟨h1, h2⟩ | ⟨g0, cap, cur, hv, -, hb, -⟩
  · rw [h1] at hk; cases hk
  · rw [hv] at hk; simp only [Value.ownBlock, Option.some.injEq] at hk; subst hk; exact lt_of_block hb
theorem bkt_no {M : List Nat} {s n b : Nat} (h : M.any (fun v => v % n == b) = inB s n b) (hn : M.any (fun v => v % n == b) = false) : bktTo s n (b + 1) = bktTo s n b := by
  rw [bktTo_succ, ← h, hn]; rfl
theorem bkt_yes {M : List Nat} {s n b j v : Nat} (h : M.any (fun v => v % n == b) = inB s n b) (hv : M[j]? = some v) (he : v % n = b) : bktTo s n (b + 1) = bktTo s n b ++ [b] := by
  rw [bktTo_succ, ← h, if_pos]
  rw [List.any_eq_true]
  exact ⟨v, List.mem_of_getElem? hv, beq_iff_eq.2 he⟩
theorem any_drop {M : List Nat} {p : Nat → Bool} {j v : Nat} (hv : M[j]? = some v) (hp : p v = false) : (M.drop (j + 1)).any p = (M.drop j).any p := by
  obtain ⟨h1, h2⟩ := List.getElem?_eq_some_iff.1 hv
  rw [List.drop_eq_getElem_cons h1, h2, List.any_cons, hp, Bool.false_or]
/-! Wait. -/
set_option maxHeartbeats 1000000 in
theorem gwait_nil (t s : Int) : Calls Tryz.prog 159 #[.pointer none, .int .i64 t, .int .u64 s] w fun e w' => e = .returned (.tuple #[.pointer none, .int .i64 1]) ∧ w = w' := by
  go_enter Tryz.func159, Tryz.ntmps159
  go_wp2
  go_step3
  go_wp2_with fail
  refine (gthread_nil t).mono ?_
  rintro e w' ⟨rfl, rfl⟩
  go_wp2
  (try rw [Exit.noGoto_ret])
  go_ret2
  exact ⟨rfl, rfl⟩
set_option maxHeartbeats 1000000 in
theorem gwait_err (g : Nat) (t s : Int) (h : t < 0 ∨ 64 ≤ t ∨ s = 0) : Calls Tryz.prog 159 #[ptr g, .int .i64 t, .int .u64 s] w fun e w' => e = .returned (.tuple #[.pointer none, .int .i64 2]) ∧ w = w' := by
  by_cases h1 : t < 0 ∨ 64 ≤ t
  · have HT := hid (@gthread_no w g t h1)
    clear h h1
    go_enter Tryz.func159, Tryz.ntmps159
    go_wp2
    go_step3
    go_wp2_with fail
    refine HT.out.mono ?_
    rintro e w' ⟨rfl, rfl⟩
    go_wp2
    (try rw [Exit.noGoto_ret])
    go_ret2
    exact ⟨rfl, rfl⟩
  · have HT := hid (@gthread_ok w g t (by omega) (by omega))
    obtain rfl : s = 0 := by omega
    clear h h1
    go_enter Tryz.func159, Tryz.ntmps159
    go_wp2
    go_step3
    go_wp2_with fail
    refine HT.out.mono ?_
    rintro e w' ⟨rfl, rfl⟩
    go_wp2
    (try rw [Exit.noGoto_ret])
    go_ret2
    exact ⟨rfl, rfl⟩
/-- A wait has begun. -/
def GWaitTo (w : World) (g mb : Nat) (t : Int) (base : Int) (left : List Nat) (e : Ending) (w' : World) : Prop :=
  ∃ wb lv lp, e = .returned (.tuple #[ptr wb, .int .i64 0]) ∧ GHead w' wb g t lv lp 0 (if left = [] then 6 else 0) ∧ LvAt w' lv left ∧ Keep Nil w w' ∧ w.heap.size ≤ wb ∧ (∀ k, lv.ownBlock = some k → w.heap.size ≤ k ∧ k ≠ wb) ∧
    ∀ (b : Nat) (r : List Nat), left = b :: r → ∃ lb, lp = ptr lb ∧ w.heap.size ≤ lb ∧ wb ≠ lb ∧ (∀ k, lv.ownBlock = some k → k ≠ lb) ∧ LockAt w' lb mb ⟨0, 0, t, base + 4 * b + 3, true, 0⟩
theorem memB_step (s n k : Nat) (hs : s < 18446744073709551616) : (mems s 64).any (fun v => v % n == k) = inB s n k := by
  rw [Bool.eq_iff_iff, inB_iff, List.any_eq_true]
  constructor
  · rintro ⟨v, hv, he⟩
    simp only [mems, List.mem_filter, List.mem_range] at hv
    exact ⟨v, hv.1, beq_iff_eq.1 he, hv.2⟩
  · rintro ⟨v, h1, h2, h3⟩
    exact ⟨v, by simp only [mems, List.mem_filter, List.mem_range]; exact ⟨h1, h3⟩, beq_iff_eq.2 h2⟩
set_option maxRecDepth 100000 in
set_option maxHeartbeats 8000000 in
theorem gwait_ok (hm : MemAt w mb F ws log) (h : GEngAt w g r mb base n ml) (t : Int) (s : Nat) (t0 : 0 ≤ t) (t1 : t < 64) (s0 : s ≠ 0) (s1 : s < 18446744073709551616) (b0 : 0 ≤ base) (b1 : base < 1000000) (n0 : 1 ≤ n) (n1 : n ≤ 16) (hlk : ∀ b ∈ bkts s n, lckErr t (base + 4 * b + 3) 0 ws.length = 0) :
    Calls Tryz.prog 159 #[ptr g, .int .i64 t, .int .u64 s] w (GWaitTo w g mb t base (bkts s n)) := by
  have HT := hid (@gthread_ok w g t t0 t1)
  have d0 : ((s : Int) == 0) = false := beq_eq_false_iff_ne.2 (by omega)
  obtain ⟨c0, c1, c2, c3⟩ := h.cells
  have HM := hid hm
  have H := hid h
  have HLK := hid hlk
  have HNE := hid (bkts_ne s1 s0 n0)
  have hg := lt_of_block h.head
  have HB := hid (fun (v : Nat) (hv : v < 64) (w : World) => @bucket_ok w v n hv n0 n1)
  have HME := hid (members_any s s1)
  have HMB := hid (fun k => memB_step s n k s1)
  have HML := hid (show ∀ (i v : Nat), (mems s 64)[i]? = some v → v < 64 from fun i v hv => by
    have := List.mem_of_getElem? hv
    simp only [mems, List.mem_filter, List.mem_range] at this
    exact this.1)
  have hmlen : (mems s 64).length ≤ 64 := by
    have := List.length_filter_le (fun i => s.testBit i) (List.range 64)
    simpa [mems] using this
  obtain ⟨M, hM⟩ : ∃ M, M = mems s 64 := ⟨_, rfl⟩
  rw [← hM] at HME HMB HML hmlen
  clear hm h hlk s0 hM c0 c1 c3
  go_enter Tryz.func159, Tryz.ntmps159
  go_wp2
  go_step3
  go_wp2_with fail
  refine HT.out.mono ?_
  rintro e w' ⟨rfl, rfl⟩
  go_wp2
  obtain ⟨W0, hW0⟩ : ∃ W0, W0 = w.alloc (.cells #[ptr g, .int .i64 t, .slice none 0 0, .pointer none, .int .u64 0, .int .u8 0, .nilFunc] 307) := ⟨_, rfl⟩
  rw [← hW0]
  have SB := hid (show GWB w g t [] W0 by rw [hW0]; exact GWB.start)
  have kW0 : Keep Nil w W0 := by rw [hW0]; exact (Keep.refl Nil w).alloc _
  have c2' := kW0.cell c2 (fun h => h)
  clear hW0 kW0 c2
  go_step3
  go_wp2
  go_loopg [31] n (fun gh i wr => ∃ b, b + gh = n ∧ i = .int .i64 b ∧ Hid (GWB w g t (bktTo s n b) wr))
  case atStart => exact ⟨0, by omega, rfl, SB⟩
  case round =>
    obtain ⟨b, hbg, rfl, HR⟩ := hrel
    clear SB
    cases gk with
    | zero =>
      have hkz : decide ((b : Int) < (n : Int)) = false := decide_eq_false (by omega)
      obtain rfl : b = n := by omega
      have HL := hid (show ∀ b' ∈ bktTo s b b, b' < 1000 ∧ lckErr t (base + 4 * b' + 3) 0 ws.length = 0 from fun b' hb' => ⟨by have := (mem_bkts.1 hb').1; omega, HLK.out b' hb'⟩)
      obtain ⟨v, hh, hrow, hkk, hown⟩ := HR.out
      have HLT := hid (lt_of_block hh)
      have hbg' := fun w2 (h2 : Keep Nil wr w2) => gbegin_any (lp := .pointer none) (HM.out.keep (hkk.trans h2 (fun _ _ h => h)) (fun _ _ h => h)) (h2.at hh (fun h => h)) ((hkk.trans h2 (fun _ _ h => h)).at H.out.head (fun h => h)) (lvAt_row (row_keep hrow h2 (fun _ _ h => h))) b0 b1 HL.out
      have hne : ¬ bktTo s b b = [] := HNE.out
      simp only [if_neg hne, gpc, gfn] at hbg'
      have HBG := hid hbg'
      have HK := hid hkk
      have HROW := hid hrow
      have HOWN := hid hown
      clear hbg' hh hrow hkk hown hkz hne
      go_wp2_with (go_at_call 165; refine (HBG.out _ (Keep.refl Nil _)).mono ?_; rintro e w2 ⟨rfl, lp', hd, hk2, hlk⟩; have HD := hid hd; have z5 := free_of hd 5; have z6 := free_of hd 6; have y5 := cell_of hd 5; have y6 := cell_of hd 6; have HK2 := hid hk2; have HLK2 := hid hlk; clear hd hk2 hlk)
      (try rw [Exit.noGoto_ret])
      go_ret2
      have kE := keep_set56 w2 w.heap.size (.int .u8 2) (gfn 0)
      have hD := HD.out.at 0 2 (gfn 0) rfl rfl
      refine ⟨w.heap.size, v, lp', rfl, ?_, ?_, ?_, Nat.le_refl _, fun k hk => ?_, fun b' r' hl => ?_⟩
      · rw [if_neg HNE.out]; exact hD
      · exact ((lvAt_row HROW.out).keep HK2.out (fun k hk e => by have := HOWN.out k hk; omega)).keep kE (fun k hk e => by have := HOWN.out k hk; omega)
      · exact (HK.out.trans HK2.out (fun k hk e => by omega)).trans kE (fun k hk e => by omega)
      · have := HOWN.out k hk; exact ⟨by omega, by omega⟩
      · obtain ⟨lb, h1, h2, h3⟩ := HLK2.out b' r' hl
        have := HK.out.size
        have hwb := lt_of_block HD.out
        have hz : w.heap.size < wr.heap.size := HLT.out
        refine ⟨lb, h1, by omega, by omega, fun k hk => ?_, h3.keep kE (fun e => by omega)⟩
        have := row_block HROW.out hk
        omega
    | succ gh =>
      have hkz : decide ((b : Int) < (n : Int)) = true := decide_eq_true (by omega)
      go_wp2_with (go_at_call 41; refine (HME.out _).mono ?_; rintro e w2 ⟨mv, rfl, hmv, hk2⟩; obtain ⟨ma, mc, hmv'⟩ := rd_slice hmv; subst hmv'; have HMV := hid hmv; have HR2 := hid (HR.out.keep hk2); clear hmv hk2)
      clear hkz
      go_loopg [37] M.length (fun g2 i wy => ∃ j : Nat, j + g2 = M.length ∧ i = .int .i64 j ∧ Hid ((M.drop j).any (fun v => v % n == b) = M.any (fun v => v % n == b) ∧ Keep Nil w2 wy))
      case atStart => exact ⟨0, by omega, rfl, hid ⟨rfl, Keep.refl _ _⟩⟩
      case round =>
        obtain ⟨j, hjg, rfl, HJ⟩ := hrel
        have HG := hid (HR2.out.keep HJ.out.2)
        have cg2 : wr.cell? ⟨g, 2, none⟩ = some (.int .i64 n) := by
          obtain ⟨v, -, -, h3, -⟩ := HG.out
          exact (h3.at H.out.head (fun h => h) |> fun h => by rw [cell_of h]; rfl)
        cases gk with
        | zero =>
          have hjz : decide ((j : Int) < (M.length : Int)) = false := decide_eq_false (by omega)
          have hany : M.any (fun v => v % n == b) = false := by rw [← HJ.out.1, List.drop_eq_nil_of_le (by omega)]; rfl
          have HN := hid (bkt_no (HMB.out b) hany)
          clear hany
          go_wp2
          go_roundg gh
          case measure => omega
          case rel => exact ⟨b + 1, by omega, by go_num, by rw [HN.out]; exact HG⟩
        | succ g2 =>
          have hjz : decide ((j : Int) < (M.length : Int)) = true := decide_eq_true (by omega)
          obtain ⟨v, hv⟩ : ∃ v, M[j]? = some v := ⟨_, List.getElem?_eq_getElem (by omega)⟩
          have hv64 := HML.out j v hv
          obtain ⟨mb2, mo, mc2, hve, hc⟩ := Rd.cell HMV.out (by omega)
          simp only [Value.slice.injEq] at hve
          obtain ⟨rfl, -, rfl⟩ := hve
          have cv := HJ.out.2.cell (hc j (.int .i64 v) (by simp [nums, ints, i64s, hv])) (fun h => h)
          have HBB := hid (HB.out v hv64)
          have HV := hid hv
          by_cases he : v % n = b
          · have HY := hid (bkt_yes (HMB.out b) hv he)
            rw [he] at HBB
            clear hv hc he
            obtain ⟨lv, hd, hrow, hkk, hown⟩ := HG.out
            have y2 : wr.cell? ⟨w.heap.size, 2, none⟩ = some lv := by rw [cell_of hd]; rfl
            have HD := hid hd
            have HROW := hid hrow
            have HK := hid hkk
            have HOWN := hid hown
            have hlen : (bktTo s n b).length ≤ 16 := by have := bktTo_len s n b; omega
            have hz : w.heap.size < wr.heap.size := lt_of_block hd
            clear hd hrow hkk hown HG HR2 HMV
            go_wp2_with (first
              | (go_at_call 161; refine (HBB.out _).mono ?_; rintro e w3 ⟨rfl, rfl⟩)
              | (at_builtin; refine wpList_app _ rfl (.tmp 57) (.tmp 59) 23 rfl 3 _ 1 8 Tryz.underlying23 infoInt rfl (by decide) lv (bktTo s n b).length (nums (bktTo s n b)) rfl ?own _ 1 [.int .i64 b] rfl ?rd ?one ?byt ?len ?_))
            case own => exact HROW.out.alloc _
            case rd => exact rd_new _ _ _ _ _ _
            case one => simp [Value.oneCell']
            case byt => omega
            case len => unfold maxLen; omega
            intro a' c' w3 ho hg3 hs3
            have hd3 : GHead w3 w.heap.size g t lv (.pointer none) 0 6 := (hg3.block _ (by simp; omega) (fun e => by have := HOWN.out _ e.symm; omega)).trans (alloc_old HD.out _)
            have z2 := free_of hd3 2
            have y2' := cell_of hd3 2
            have HD3 := hid hd3
            have HO3 := hid ho
            have HK3 := hid (Keep.grown (HK.out.alloc _) hg3 (fun j hj => .inr (by have := HOWN.out j hj; omega)))
            have HV3 := hid (show ∀ k, (Value.slice a' ((bktTo s n b).length + 1) c').ownBlock = some k → w.heap.size < k from fun k hk => by
              rcases hs3 k hk with h | h
              · exact HOWN.out k h
              · simp at h; omega)
            clear ho hg3 hs3 hd3 y2 HD HROW HK HOWN
            go_wp2
            go_roundg gh
            case measure => omega
            case rel =>
              refine ⟨b + 1, by omega, by go_num, ?_⟩
              rw [HY.out]
              have hl : (bktTo s n b ++ [b]).length = (bktTo s n b).length + 1 := by simp
              refine hid ⟨.slice a' ((bktTo s n b).length + 1) c', set_same (i := 2) HD3.out _, ?_, Keep.setCell HK3.out (.inr (Nat.le_refl _)) _, HV3.out⟩
              rw [hl, nums_snoc]
              exact ownsRow_setCell_other HO3.out (fun e => by have := HV3.out _ e; simp at this) _
          · have hne : (((v % n : Nat) : Int) == (b : Int)) = false := beq_eq_false_iff_ne.2 (by omega)
            have HD := hid (any_drop (p := fun v => v % n == b) hv (beq_eq_false_iff_ne.2 he))
            clear hv hc he
            go_wp2_with (go_at_call 161; refine (HBB.out _).mono ?_; rintro e w3 ⟨rfl, rfl⟩)
            go_roundg g2
            case measure => omega
            case rel => exact ⟨j + 1, by omega, by go_num, hid ⟨HD.out.trans HJ.out.1, HJ.out.2⟩⟩
end
end Go.Proofs.YtldjlcdccnnogaaGreat

/-! GateSteps: the program's side. -/
set_option linter.unusedVariables false
set_option linter.unusedSimpArgs false
namespace Go.Lf
open Go.RowKit
/-- The blocks of an operation: its own, its section or its lock, and what is left. -/
structure GPB where
  a : Nat
  b : Nat
  v : Value
end Go.Lf
namespace Go.Proofs.YtldjlcdccnnogaaGreat
open Go.RowKit Go.Lf
/-- A wait with its lock. -/
structure GWtAt (w : World) (wb lb g mb : Nat) (t : Int) (B : Nat) (lv : Value) (f st side : Nat) (left : List Nat) : Prop where
  head : ∃ lp, GHead w wb g t lv lp side st ∧ (left ≠ [] → lp = ptr lb)
  lva : LvAt w lv left
  own : ∀ k, lv.ownBlock = some k → k ≠ wb ∧ k ≠ lb ∧ k < w.heap.size
  ne : wb ≠ lb
  ltl : lb < w.heap.size
  lock : st = 0 → ∀ b r, left = b :: r → LockAt w lb mb ⟨f, 0, t, (B : Int) + 4 * b + 3, true, 0⟩
theorem GWtAt.keep {w w' : World} {wb lb g mb : Nat} {t : Int} {B : Nat} {lv : Value} {f st side : Nat} {left : List Nat} {S : Nat → Prop} (h : GWtAt w wb lb g mb t B lv f st side left) (hk : Keep S w w') (hn : ∀ k, (k = wb ∨ k = lb ∨ lv.ownBlock = some k) → ¬ S k) : GWtAt w' wb lb g mb t B lv f st side left := by
  obtain ⟨⟨lp, h1, h1'⟩, h2, h3, h4, h5, h6⟩ := h
  have := hk.size
  exact ⟨⟨lp, hk.at h1 (hn wb (.inl rfl)), h1'⟩, h2.keep hk (fun k e => hn k (.inr (.inr e))), fun k e => by obtain ⟨a, b, c⟩ := h3 k e; exact ⟨a, b, by omega⟩, h4, by omega, fun h0 b r hl => (h6 h0 b r hl).keep hk (hn lb (.inr (.inl rfl)))⟩
def gcnt (B b : Nat) : Option Nat → Int
  | none => -1
  | some c => ((B + 4 * b + 1 + c : Nat) : Int)
def gpat (g mb B : Nat) (w : World) (o : GOp × GPB) : Prop := match o.1 with
  | .en t s b c dn => GEnterAt w o.2.a mb t ((B : Int) + 4 * b) o.2.b ∧ SecAt w o.2.b (gcnt B b c) dn ∧ o.2.a ≠ o.2.b
  | .wa t st side left f => GWtAt w o.2.a o.2.b g mb t B o.2.v f st side left
def gphas (o : GOp × GPB) (k : Nat) : Prop := match o.1 with
  | .en .. => k = o.2.a ∨ k = o.2.b
  | .wa .. => k = o.2.a ∨ k = o.2.b ∨ o.2.v.ownBlock = some k
def GPO (g mb B : Nat) : ObLies (GOp × GPB) where
  at_ := gpat g mb B
  has := gphas
  keep := by
    rintro w w' ⟨o, p⟩ S h hk hn
    cases o with
    | en t s b c dn => exact ⟨hk.at h.1 (hn _ (.inl rfl)), hk.at h.2.1 (hn _ (.inr rfl)), h.2.2⟩
    | wa t st side left f => exact GWtAt.keep h hk hn
  lt := by
    rintro w ⟨o, p⟩ k h hh
    cases o with
    | en t s b c dn =>
      rcases hh with rfl | rfl
      · exact lt_of_block h.1
      · exact lt_of_block h.2.1
    | wa t st side left f =>
      obtain ⟨⟨lp, h1, -⟩, h2, h3, h4, h5, h6⟩ := (show GWtAt _ _ _ _ _ _ _ _ _ _ _ _ from h)
      rcases hh with rfl | rfl | e
      · exact lt_of_block h1
      · exact h5
      · exact (h3 k e).2.2
/-- The engine with its memory. -/
structure GSys (g r mb B n : Nat) (w : World) (A : Nat → Prop) (ml : List (Int × Value)) (ws : List Int) (log : List Acc) (F : Nat → Prop) : Prop where
  mem : MemAt w mb F ws log
  eng : GEngAt w g r mb (B : Int) n ml
  fg : ¬ F g
  fr : ¬ F r
  foot : ∀ k, A k ↔ F k ∨ k = g ∨ k = r
def GPS (g r mb B n : Nat) : Lies (List (Int × Value) × List Int × List Acc) where
  lie w A s := ∃ F, GSys g r mb B n w A s.1 s.2.1 s.2.2 F
  keep := fun ⟨F, h⟩ hk hn => ⟨F, h.mem.keep hk (fun k hF => hn k ((h.foot k).2 (.inl hF))), h.eng.keep hk (hn g ((h.foot g).2 (.inr (.inl rfl)))) (hn r ((h.foot r).2 (.inr (.inr rfl)))), h.fg, h.fr, h.foot⟩
  lt := fun ⟨F, h⟩ k hA => by
    rcases (h.foot k).1 hA with e | rfl | rfl
    · exact h.mem.lt k e
    · exact lt_of_block h.eng.head
    · exact h.eng.map.lt
/-- The map of the sections says whose each slot is. -/
def GMl (S : GSt) (bo : List (GOp × GPB)) (ml : List (Int × Value)) : Prop := (mkeys ml).Nodup ∧ ∀ k : Int, mlook ml k = if k < 0 then none else (S.sl[k.toNat]?).bind fun x => if x.ph = 0 then none else (bo[x.ow]?).map fun o => ptr o.2.b
structure GPAt (g r mb B n : Nat) (w : World) (A : Nat → Prop) (S : GSt) (bo : List (GOp × GPB)) (F : Nat → Prop) (ml : List (Int × Value)) : Prop where
  ob : ObjsB (GPS g r mb B n) (GPO g mb B) w A (ml, S.ws, S.log) bo F
  ops : S.ops = bo.map Prod.fst
  ml : GMl S bo ml
def GLies (g r mb B n : Nat) : Lies (GSt × List (GOp × GPB)) where
  lie w A x := ∃ F ml, GPAt g r mb B n w A x.1 x.2 F ml
  keep := fun ⟨F, ml, h⟩ hk hn => ⟨F, ml, h.ob.keep hk hn, h.ops, h.ml⟩
  lt := fun ⟨_, _, h⟩ k hA => h.ob.lt k hA

section
variable {w w' : World} {g r mb B n : Nat} {F F' A : Nat → Prop} {ml : List (Int × Value)} {ws ws' : List Int} {log : List Acc} {t : Int} {wb lb st side f st' side' f' : Nat} {lv : Value} {left left' : List Nat}
/-- Behind a step of a wait. -/
def GWStTo (w : World) (wb lb g mb B : Nat) (F : Nat → Prop) (t : Int) (lv : Value) (f st side : Nat) (left : List Nat) (ws : List Int) (log : List Acc) (w' : World) : Prop :=
  ∃ F' lb' lv', MemAt w' mb F' ws log ∧ GWtAt w' wb lb' g mb t B lv' f st side left ∧ Keep (fun k => F k ∨ k = wb ∨ k = lb) w w' ∧ Foot w F F' ∧ (∀ k, lv'.ownBlock = some k → lv.ownBlock = some k) ∧ (lb' = lb ∨ w.heap.size ≤ lb') ∧ ∀ k, (k = wb ∨ k = lb' ∨ lv'.ownBlock = some k) → ¬ F' k
/-- What was walked is what is said. -/
theorem gwst_fin {w1 : World} (hw : GWtAt w wb lb g mb t B lv f st side left) (fw : ∀ k, (k = wb ∨ k = lb ∨ lv.ownBlock = some k) → ¬ F k) {log' : List Acc} (kk : Keep (fun k => F k ∨ k = lb ∨ k = wb) w w1) (m1 : MemAt w1 mb F' ws' log') (ff : Foot w F F') (lb' : Nat) (lv' lp' : Value) {st0 : Nat}
    (hd : GHead w1 wb g t lv' lp' side' st0) (hk1 : Keep (fun k => k = wb) w1 w') (turn : ∀ lv lp side st0, GHead w1 wb g t lv lp side st0 → GHead w' wb g t lv lp side st') (hlp : left' ≠ [] → lp' = ptr lb') (hlv : LvAt w1 lv' left') (how : ∀ k, lv'.ownBlock = some k → lv.ownBlock = some k)
    (hlb : lb' = lb ∨ (w.heap.size ≤ lb' ∧ ¬ F' lb' ∧ lb' < w1.heap.size)) (hlk : st' = 0 → ∀ b r, left' = b :: r → LockAt w1 lb' mb ⟨f', 0, t, (B : Int) + 4 * b + 3, true, 0⟩) :
    GWStTo w wb lb g mb B F t lv f' st' side' left' ws' log' w' := by
  obtain ⟨⟨lp, h1, h1'⟩, h2, h3, h4, h5, h6⟩ := hw
  have hwb := lt_of_block h1
  have s1 := kk.size
  have s2 := hk1.size
  have nF : ∀ k, (k = wb ∨ k = lb ∨ lv.ownBlock = some k) → k < w.heap.size → ¬ F' k := fun k hk hl e => (ff k e).elim (fw k hk) (fun h => by omega)
  have nwb : ¬ F' wb := nF wb (.inl rfl) hwb
  have nlb : lb' ≠ wb := by
    rcases hlb with e | ⟨e, -⟩
    · rw [e]; exact fun h => h4 h.symm
    · omega
  have ltl : lb' < w1.heap.size := by
    rcases hlb with e | ⟨-, -, e⟩
    · omega
    · exact e
  refine ⟨F', lb', lv', m1.keep hk1 (fun k hk e => nwb (e ▸ hk)), ⟨⟨lp', turn _ _ _ _ hd, hlp⟩, hlv.keep hk1 (fun k hk => (h3 k (how k hk)).1), fun k hk => ?_, fun e => nlb e.symm, by omega, fun h0 b r hl => (hlk h0 b r hl).keep hk1 nlb⟩, (kk.trans hk1 (fun k _ e => .inr (.inr e))).mono (fun k _ e => ?_), ff, how, ?_, fun k hk => ?_⟩
  · obtain ⟨a1, a2, a3⟩ := h3 k (how k hk)
    refine ⟨a1, ?_, by omega⟩
    rcases hlb with e | ⟨e, -⟩
    · rw [e]; exact a2
    · omega
  · rcases e with e | e | e
    · exact .inl e
    · exact .inr (.inr e)
    · exact .inr (.inl e)
  · rcases hlb with e | ⟨e, -⟩
    · exact .inl e
    · exact .inr e
  · rcases hk with e | e | e
    · subst e; exact nwb
    · rcases hlb with e' | ⟨-, e', -⟩
      · rw [e, e']; exact nF lb (.inr (.inl rfl)) h5
      · rw [e]; exact e'
    · exact nF k (.inr (.inr (how k e))) (h3 k (how k e)).2.2
set_option maxHeartbeats 2000000 in
theorem gwstep_any (hm : MemAt w mb F ws log) (he : GEngAt w g r mb (B : Int) n ml) (fg : ¬ F g) (hw : GWtAt w wb lb g mb t B lv f st side left) (fw : ∀ k, (k = wb ∨ k = lb ∨ lv.ownBlock = some k) → ¬ F k) (t0 : 0 ≤ t) (t1 : t < 64) (hB : B ≤ 1000) (hn : n ≤ 16) (hsd : side < 2) (hl : ∀ b ∈ left, b < n) (hlen : B + 4 * n ≤ ws.length) (hlog : log.length < 100000000) (hf : f < 100000000) {a : Acc} (hst : GWStep B t ws st side left f ws' a st' side' left' f') :
    Calls Tryz.prog 210 #[ptr wb] w fun e w' => e = .returned (.tuple #[.int .u8 (gpc st), .bool (st' == 6)]) ∧ GWStTo w wb lb g mb B F t lv f' st' side' left' ws' (log ++ [a]) w' := by
  obtain ⟨⟨lp, hd, hlp⟩, h2, h3, h4, h5, h6⟩ := id hw
  have fwb := fw wb (.inl rfl)
  have flb := fw lb (.inr (.inl rfl))
  obtain ⟨b, rest, rfl⟩ : ∃ b rest, left = b :: rest := by cases hst <;> exact ⟨_, _, rfl⟩
  obtain rfl := hlp (by simp)
  have hbn := hl b (List.mem_cons_self ..)
  obtain ⟨x, c, rfl, hr, hcap⟩ := h2
  have e0 : ((B : Int) + 4 * (b : Int)).toNat = B + 4 * b := by omega
  have e3 : ((B : Int) + 4 * (b : Int) + 3).toNat = B + 4 * b + 3 := by omega
  have lvk : ∀ {w1 : World}, Keep (fun k => F k ∨ k = lb ∨ k = wb) w w1 → LvAt w1 (.slice x (rest.length + 1) c) (b :: rest) := fun hk => LvAt.keep (l := b :: rest) ⟨x, c, rfl, hr, hcap⟩ hk (fun k hk e => by
    rcases e with e | e | e
    · exact fw k (.inr (.inr hk)) e
    · exact (h3 k hk).2.1 e
    · exact (h3 k hk).1 e)
  cases hst with
  | @lock _ _ _ _ hx =>
    have hc := glocks_any hm hd _ (h6 rfl b rest rfl) rfl fwb flb t0 t1 (by simp only; omega) 0 (by simp only; rw [e3]; exact hx) (by simp only; omega) (by simp only; omega) rfl (by omega)
    simp only [e3, if_true] at hc
    refine (gwstep0 hd 1 (fun w1 hq => ?_) (by decide) hc).mono ?_
    · obtain ⟨F2, -, q, -⟩ := hq; exact ⟨_, _, _, _, q⟩
    · rintro e w2 ⟨rfl, w1, ⟨F2, m1, q1, q2, q3, q4⟩, k1, tn⟩
      have kk := q3.mono (T := fun k => F k ∨ k = lb ∨ k = wb) (fun k _ e => e.elim .inl (fun e => .inr (.inl e)))
      exact ⟨rfl, gwst_fin hw fw kk m1 q4 lb _ _ q1 k1 tn (fun _ => rfl) (lvk kk) (fun _ h => h) (.inl rfl) (fun h => by omega)⟩
  | @busy _ _ _ _ v hx hne =>
    have hc := glocks_any hm hd _ (h6 rfl b rest rfl) rfl fwb flb t0 t1 (by simp only; omega) v (by simp only; rw [e3]; exact hx) (by simp only; omega) (by simp only; omega) rfl (by omega)
    simp only [e3, if_neg hne] at hc
    refine (gwstep0 hd 0 (fun w1 hq => ?_) (by decide) hc).mono ?_
    · obtain ⟨F2, -, q, -⟩ := hq; exact ⟨_, _, _, _, q⟩
    · rintro e w2 ⟨rfl, w1, ⟨F2, m1, q1, q2, q3, q4⟩, k1, tn⟩
      have kk := q3.mono (T := fun k => F k ∨ k = lb ∨ k = wb) (fun k _ e => e.elim .inl (fun e => .inr (.inl e)))
      refine ⟨rfl, gwst_fin hw fw kk m1 q4 lb _ _ q1 k1 tn (fun _ => rfl) (lvk kk) (fun _ h => h) (.inl rfl) (fun _ b' r' hl' => ?_)⟩
      simp only [List.cons.injEq] at hl'
      obtain ⟨rfl, rfl⟩ := hl'
      exact q2
  | @look _ _ _ _ _ hx =>
    have hc := glooks_ok (r := r) (n := n) hm hd he.head hr fg fwb (by omega) (by omega) (by omega) t0 t1 (side' : Int) (by rw [e0]; exact hx) (by omega)
    refine (gwstep1 hd 2 (fun w1 hq => ?_) (by decide) hc).mono ?_
    · obtain ⟨F2, -, q, -⟩ := hq; exact ⟨_, _, _, _, q⟩
    · rintro e w2 ⟨rfl, w1, ⟨F2, m1, q1, q3, q4⟩, k1, tn⟩
      have kk := q3.mono (T := fun k => F k ∨ k = lb ∨ k = wb) (fun k _ e => e.elim .inl (fun e => .inr (.inr e)))
      exact ⟨rfl, gwst_fin hw fw kk m1 q4 lb _ _ q1 k1 tn (fun _ => rfl) (lvk kk) (fun _ h => h) (.inl rfl) (fun h => by omega)⟩
  | @other _ _ _ _ v hx =>
    have hc := gdrainsO_ok (r := r) (n := n) hm hd he.head hr fg fwb (by omega) (by omega) (by omega) t0 t1 side rfl (by omega) v (by rw [show ((B : Int) + 4 * (b : Int) + 1 + (((side + 1) % 2 : Nat) : Int)).toNat = B + 4 * b + 1 + (side + 1) % 2 by omega]; exact hx) (by omega)
    by_cases hz : v = 0
    · simp only [if_pos hz] at hc ⊢
      refine (gwstep2 hd 3 (fun w1 hq => ?_) (by decide) hc).mono ?_
      · obtain ⟨F2, -, q, -⟩ := hq; exact ⟨_, _, _, _, q⟩
      · rintro e w2 ⟨rfl, w1, ⟨F2, m1, q1, q3, q4⟩, k1, tn⟩
        have kk := q3.mono (T := fun k => F k ∨ k = lb ∨ k = wb) (fun k _ e => e.elim .inl (fun e => .inr (.inr e)))
        exact ⟨rfl, gwst_fin hw fw kk m1 q4 lb _ _ q1 k1 tn (fun _ => rfl) (lvk kk) (fun _ h => h) (.inl rfl) (fun h => by omega)⟩
    · simp only [if_neg hz] at hc ⊢
      refine (gwstep2 hd 2 (fun w1 hq => ?_) (by decide) hc).mono ?_
      · obtain ⟨F2, -, q, -⟩ := hq; exact ⟨_, _, _, _, q⟩
      · rintro e w2 ⟨rfl, w1, ⟨F2, m1, q1, q3, q4⟩, k1, tn⟩
        have kk := q3.mono (T := fun k => F k ∨ k = lb ∨ k = wb) (fun k _ e => e.elim .inl (fun e => .inr (.inr e)))
        exact ⟨rfl, gwst_fin hw fw kk m1 q4 lb _ _ q1 k1 tn (fun _ => rfl) (lvk kk) (fun _ h => h) (.inl rfl) (fun h => by omega)⟩
  | @flip _ _ _ _ v hx =>
    have hc := gflips_ok (r := r) (n := n) hm hd he.head hr fg fwb (by omega) (by omega) (by omega) t0 t1 side rfl (by omega) v (by rw [e0]; exact hx) (by omega)
    rw [e0] at hc
    refine (gwstep3 hd 4 (fun w1 hq => ?_) (by decide) hc).mono ?_
    · obtain ⟨F2, -, q, -⟩ := hq; exact ⟨_, _, _, _, q⟩
    · rintro e w2 ⟨rfl, w1, ⟨F2, m1, q1, q3, q4⟩, k1, tn⟩
      have kk := q3.mono (T := fun k => F k ∨ k = lb ∨ k = wb) (fun k _ e => e.elim .inl (fun e => .inr (.inr e)))
      exact ⟨rfl, gwst_fin hw fw kk m1 q4 lb _ _ q1 k1 tn (fun _ => rfl) (lvk kk) (fun _ h => h) (.inl rfl) (fun h => by omega)⟩
  | @drain _ _ _ _ v hx =>
    have hc := gdrains_ok (r := r) (n := n) hm hd he.head hr fg fwb (by omega) (by omega) (by omega) t0 t1 side rfl (by omega) v (by rw [show ((B : Int) + 4 * (b : Int) + 1 + (((side) % 2 : Nat) : Int)).toNat = B + 4 * b + 1 + side % 2 by omega]; exact hx) (by omega)
    by_cases hz : v = 0
    · simp only [if_pos hz] at hc ⊢
      refine (gwstep4 hd 5 (fun w1 hq => ?_) (by decide) hc).mono ?_
      · obtain ⟨F2, -, q, -⟩ := hq; exact ⟨_, _, _, _, q⟩
      · rintro e w2 ⟨rfl, w1, ⟨F2, m1, q1, q3, q4⟩, k1, tn⟩
        have kk := q3.mono (T := fun k => F k ∨ k = lb ∨ k = wb) (fun k _ e => e.elim .inl (fun e => .inr (.inr e)))
        exact ⟨rfl, gwst_fin hw fw kk m1 q4 lb _ _ q1 k1 tn (fun _ => rfl) (lvk kk) (fun _ h => h) (.inl rfl) (fun h => by omega)⟩
    · simp only [if_neg hz] at hc ⊢
      refine (gwstep4 hd 4 (fun w1 hq => ?_) (by decide) hc).mono ?_
      · obtain ⟨F2, -, q, -⟩ := hq; exact ⟨_, _, _, _, q⟩
      · rintro e w2 ⟨rfl, w1, ⟨F2, m1, q1, q3, q4⟩, k1, tn⟩
        have kk := q3.mono (T := fun k => F k ∨ k = lb ∨ k = wb) (fun k _ e => e.elim .inl (fun e => .inr (.inr e)))
        exact ⟨rfl, gwst_fin hw fw kk m1 q4 lb _ _ q1 k1 tn (fun _ => rfl) (lvk kk) (fun _ h => h) (.inl rfl) (fun h => by omega)⟩
  | @unlock _ _ _ _ hx =>
    have le : ∀ b' : Nat, b' < n → lckErr t ((B : Int) + 4 * (b' : Int) + 3) 0 ws.length = 0 := fun b' hb' => by
      unfold lckErr
      rw [if_neg (by omega), if_neg (by omega)]
    have hc := gunlocks_ok (r := r) (n := n) hm hd he.head hr fg fwb (by omega) (by omega) (by omega) t0 t1 hcap (fun k hk => ⟨fw k (.inr (.inr hk)), (h3 k hk).1⟩) (fun b' hb' => ⟨by have := hl b' (List.mem_cons_of_mem _ hb'); omega, le b' (hl b' (List.mem_cons_of_mem _ hb'))⟩) (le b hbn) (by rw [e3]; exact hx) (by omega)
    rw [e3] at hc
    refine (gwstep5 hd (if left' = [] then 6 else 0) (fun w1 hq => ?_) (by split <;> decide) hc).mono ?_
    · obtain ⟨F2, lv', lp', -, q, -⟩ := hq; exact ⟨_, _, _, _, q⟩
    · rintro e w2 ⟨rfl, w1, ⟨F2, lv', lp', m1, q1, q2, q5, q3, q4, q6⟩, k1, tn⟩
      refine ⟨rfl, ?_⟩
      have kk := q3.mono (T := fun k => F k ∨ k = lb ∨ k = wb) (fun k _ e => e.elim .inl (fun e => .inr (.inr e)))
      cases left' with
      | nil => exact gwst_fin hw fw kk m1 q4 lb _ _ q1 k1 tn (fun h => absurd rfl h) q2 q5 (.inl rfl) (fun _ b' r' hl => by cases hl)
      | cons b' r' =>
        obtain ⟨lb', z1, z2, z3, z4⟩ := q6 b' r' rfl
        exact gwst_fin hw fw kk m1 q4 lb' _ _ q1 k1 tn (fun _ => z1) q2 q5 (.inr ⟨z2, z4, lt_of_block z3⟩) (fun _ b'' r'' hl => by
          simp only [List.cons.injEq] at hl
          obtain ⟨rfl, rfl⟩ := hl
          exact z3)
end
end Go.Proofs.YtldjlcdccnnogaaGreat

/-! GateSteps: what calls make of the program's side. -/
set_option linter.unusedVariables false
set_option linter.unusedSimpArgs false
namespace Go.Lf
open Go.RowKit
def glk (sl : List GSl) (bo : List (GOp × GPB)) (k : Int) : Option Value := if k < 0 then none else (sl[k.toNat]?).bind fun x => if x.ph = 0 then none else (bo[x.ow]?).map fun o => .pointer (some ⟨o.2.b, 0, none⟩)
theorem glk_eq {sl sl' : List GSl} {bo bo' : List (GOp × GPB)} (hl : sl'.length = sl.length) (h : ∀ (s : Nat) (x : GSl), sl[s]? = some x → ∃ x', sl'[s]? = some x' ∧ (x'.ph = 0 ↔ x.ph = 0) ∧ (x.ph ≠ 0 → (bo'[x'.ow]?).map (fun o => o.2.b) = (bo[x.ow]?).map (fun o => o.2.b))) (k : Int) : glk sl' bo' k = glk sl bo k := by
  unfold glk
  split
  · rfl
  · cases hx : sl[k.toNat]? with
    | none => rw [List.getElem?_eq_none (by rw [List.getElem?_eq_none_iff] at hx; omega)]; rfl
    | some x =>
      obtain ⟨x', h1, h2, h3⟩ := h _ x hx
      rw [h1]
      simp only [Option.bind_some]
      by_cases e : x.ph = 0
      · rw [if_pos e, if_pos (h2.2 e)]
      · rw [if_neg e, if_neg (fun h => e (h2.1 h))]
        have h4 := h3 e
        have : ∀ o : Option (GOp × GPB), o.map (fun o => (Value.pointer (some ⟨o.2.b, 0, none⟩))) = (o.map (fun o => o.2.b)).map (fun b => Value.pointer (some ⟨b, 0, none⟩)) := fun o => by cases o <;> rfl
        rw [this, this, h4]
theorem glk_none {sl : List GSl} {bo : List (GOp × GPB)} {k : Int} (h : k < 0 ∨ (sl.length : Int) ≤ k) : glk sl bo k = none := by
  unfold glk
  by_cases e : k < 0
  · rw [if_pos e]
  · rw [if_neg e, List.getElem?_eq_none (by omega)]; rfl
theorem glk_at {sl : List GSl} {bo : List (GOp × GPB)} {s : Nat} {x : GSl} (h : sl[s]? = some x) : glk sl bo s = if x.ph = 0 then none else (bo[x.ow]?).map fun o => .pointer (some ⟨o.2.b, 0, none⟩) := by
  unfold glk
  rw [if_neg (by omega), show ((s : Int)).toNat = s by omega, h]
  rfl
theorem map_fst_set {α β : Type} (l : List (α × β)) (i : Nat) (o : α) (p : β) : (l.set i (o, p)).map Prod.fst = (l.map Prod.fst).set i o := List.map_set
theorem fst_at {α β : Type} {l : List (α × β)} {i : Nat} {o : α} (h : (l.map Prod.fst)[i]? = some o) : ∃ p, l[i]? = some (o, p) := by
  simp only [List.getElem?_map, Option.map_eq_some_iff] at h
  obtain ⟨⟨a, b⟩, h1, rfl⟩ := h
  exact ⟨b, h1⟩
end Go.Lf
namespace Go.Proofs.YtldjlcdccnnogaaGreat
open Go.RowKit Go.Lf
section
variable {w w' : World} {g r mb B n K : Nat} {F F' A : Nat → Prop} {ml : List (Int × Value)} {S S' : GSt} {bo : List (GOp × GPB)}
theorem gwpc_eq : ∀ st, gwpc st = gpc st := fun st => by
  match st with
  | 0 | 1 | 2 | 3 | 4 | 5 | _ + 6 => rfl
theorem GPAt.glk (h : GPAt g r mb B n w A S bo F ml) (k : Int) : mlook ml k = glk S.sl bo k := h.ml.2 k
theorem GPAt.at (h : GPAt g r mb B n w A S bo F ml) {i : Nat} {o : GOp} (ho : S.ops[i]? = some o) : ∃ p, bo[i]? = some (o, p) ∧ gpat g mb B w (o, p) ∧ (∀ k, gphas (o, p) k → ¬ F k) := by
  rw [h.ops] at ho
  obtain ⟨p, hp⟩ := fst_at ho
  obtain ⟨h1, h2⟩ := h.ob.objs i _ hp
  exact ⟨p, hp, h1, h2⟩
/-- The engine's blocks, and those of an operation, are apart. -/
theorem GSys.nf {g r mb B n : Nat} {A F : Nat → Prop} {ws : List Int} {log : List Acc} (h : GSys g r mb B n w A ml ws log F) : ¬ F g ∧ ¬ F r := ⟨h.fg, h.fr⟩
/-- The system's parts. -/
theorem GPAt.sys (h : GPAt g r mb B n w A S bo F ml) : ∃ G, GSys g r mb B n w F ml S.ws S.log G := h.ob.sys
theorem GSys.mk' {G' : Nat → Prop} {ml' : List (Int × Value)} {ws' : List Int} {log' : List Acc} {G : Nat → Prop} (h : GSys g r mb B n w F ml ws' log' G) (hm : MemAt w' mb G' S'.ws S'.log) (he : GEngAt w' g r mb (B : Int) n ml') (hf : Foot w G G') :
    GSys g r mb B n w' (fun k => G' k ∨ k = g ∨ k = r) ml' S'.ws S'.log G' ∧ Foot w F (fun k => G' k ∨ k = g ∨ k = r) := by
  have lg := lt_of_block h.eng.head
  have lr := h.eng.map.lt
  refine ⟨⟨hm, he, fun e => (hf g e).elim h.fg (fun e => by omega), fun e => (hf r e).elim h.fr (fun e => by omega), fun _ => Iff.rfl⟩, fun k hk => ?_⟩
  rcases hk with e | e
  · exact (hf k e).elim (fun e => .inl ((h.foot k).2 (.inl e))) .inr
  · exact .inl ((h.foot k).2 (.inr e))
/-- Operation i has turned, with the system. -/
theorem GPAt.one (h : GPAt g r mb B n w A S bo F ml) {G G' : Nat → Prop} (hs : GSys g r mb B n w F ml S.ws S.log G) {i : Nat} {o o' : GOp} {p p' : GPB} (hp : bo[i]? = some (o, p)) (hm : MemAt w' mb G' S'.ws S'.log) (ho' : gpat g mb B w' (o', p')) (hk : Keep (fun k => G k ∨ gphas (o, p) k) w w') (hf : Foot w G G')
    (hn : ∀ k, gphas (o', p') k → ¬ G' k ∧ (gphas (o, p) k ∨ w.heap.size ≤ k)) (hops : S'.ops = S.ops.set i o') (hml : ∀ k, Go.Lf.glk S'.sl (bo.set i (o', p')) k = Go.Lf.glk S.sl bo k) :
    (GLies g r mb B n).To w A (S', bo.set i (o', p')) w' := by
  have hF : ∀ k, gphas (o, p) k → ¬ F k := (h.ob.objs i _ hp).2
  have hlt : ∀ k, gphas (o, p) k → k < w.heap.size := fun k hk => (GPO g mb B).lt (h.ob.objs i _ hp).1 hk
  have ng : ¬ (G g ∨ gphas (o, p) g) := fun e => e.elim hs.fg (fun e => hF g e ((hs.foot g).2 (.inr (.inl rfl))))
  have nr : ¬ (G r ∨ gphas (o, p) r) := fun e => e.elim hs.fr (fun e => hF r e ((hs.foot r).2 (.inr (.inr rfl))))
  obtain ⟨h1, h2⟩ := hs.mk' (S' := S') hm (hs.eng.keep hk ng nr) hf
  have nF : ∀ k, gphas (o', p') k → ¬ (G' k ∨ k = g ∨ k = r) := fun k hk' e => by
    rcases e with e | e
    · exact (hn k hk').1 e
    · rcases (hn k hk').2 with e' | e'
      · exact hF k e' ((hs.foot k).2 (.inr e))
      · have := lt_of_block hs.eng.head
        have := hs.eng.map.lt
        rcases e with e | e <;> omega
  obtain ⟨A', a1, a2, a3⟩ := h.ob.one (s' := (ml, S'.ws, S'.log)) (o' := (o', p')) hp ⟨G', h1⟩ ho' (hk.mono fun k _ e => e.elim (fun e => .inl ((hs.foot k).2 (.inl e))) .inr) h2 (fun k hk' => ⟨nF k hk', (hn k hk').2⟩)
  exact ⟨A', ⟨_, ml, a1, by rw [hops, h.ops, map_fst_set], h.ml.1, fun k => (h.glk k).trans (hml k).symm⟩, a2, a3⟩
theorem GPAt.same (h : GPAt g r mb B n w A S bo F ml) (hk : Keep Nil w w') : (GLies g r mb B n).To w A (S, bo) w' := by
  obtain ⟨A', h1, h2, h3⟩ := h.ob.same hk
  exact ⟨A', ⟨F, ml, h1, h.ops, h.ml⟩, h2, h3⟩
def GOp.pstep : GOp → FuncId
  | .en .. => 208
  | .wa .. => 210
def GOp.pnext : GOp → FuncId
  | .en .. => 207
  | .wa .. => 209
def GOp.pc : GOp → Int
  | .en _ _ _ c dn => if dn then 0 else match c with | none => 15 | some _ => 16
  | .wa _ st _ _ _ => gwpc st
theorem gpnext (h : GPAt g r mb B n w A S bo F ml) {i : Nat} {o : GOp} {p : GPB} (hp : bo[i]? = some (o, p)) :
    Calls Tryz.prog (GOp.pnext o) #[ptr p.a] w fun e w' => e = .returned (.int .u8 (GOp.pc o)) ∧ w = w' := by
  have ho := (h.ob.objs i _ hp).1
  cases o with
  | en t s b c dn =>
    have := genext_any ho.1 ho.2.1
    refine this.mono ?_
    rintro e w' ⟨rfl, rfl⟩
    refine ⟨?_, rfl⟩
    unfold gepc GOp.pc
    cases dn with
    | true => rfl
    | false =>
      cases c with
      | none => rfl
      | some c =>
        show Ending.returned (.int .u8 (if gcnt B b (some c) < 0 then 15 else 16)) = _
        rw [if_neg (by simp only [gcnt]; omega)]; rfl
  | wa t st side left f =>
    obtain ⟨⟨lp, h1, -⟩, -⟩ := (show GWtAt _ _ _ _ _ _ _ _ _ _ _ _ from ho)
    have := gwnext_any h1
    rw [← gwpc_eq] at this
    exact this
theorem gpstep (h : GPAt g r mb B n w A S bo F ml) (hok : S.ok B n K) (hB : B ≤ 20) (hn : n ≤ 9) (hK : K ≤ 10000) {i : Nat} {o : GOp} {p : GPB} (hp : bo[i]? = some (o, p)) {pc : Int} {d : Bool} (hst : Go.Lf.GStep B S i S' pc d) :
    Calls Tryz.prog (GOp.pstep o) #[ptr p.a] w fun e w' => e = .returned (.tuple #[.int .u8 pc, .bool d]) ∧ ∃ o' p', S'.ops = S.ops.set i o' ∧ p'.a = p.a ∧ o'.kind = o.kind ∧ (GLies g r mb B n).To w A (S', bo.set i (o', p')) w' := by
  have ll := hok.llog
  have lw := hok.lw
  have hoi : S.ops[i]? = some o := by rw [h.ops]; simp [hp]
  obtain ⟨hat, hF0⟩ := h.ob.objs i _ hp
  have hoo := hok.ops i o hoi
  obtain ⟨G, hs⟩ := h.sys
  have hF : ∀ k, gphas (o, p) k → ¬ F k := hF0
  have hG : ∀ k, gphas (o, p) k → ¬ G k := fun k hk e => hF k hk ((hs.foot k).2 (.inl e))
  have hlt : ∀ k, gphas (o, p) k → k < w.heap.size := fun k hk => (GPO g mb B).lt hat hk
  have getx : ∀ {s : Nat} {x : GSl}, S.sl[s]? = some x → s < S.sl.length := fun hx => (List.getElem?_eq_some_iff.1 hx).1
  cases hst with
  | @choose t s b x y h1 hy hx =>
    rw [hoi] at h1; obtain rfl := Option.some.inj h1
    obtain ⟨t0, t1, s1, b1, hc, -, hl⟩ := hoo
    obtain ⟨y', hy', y1, y2, -⟩ := hl rfl
    rw [hy] at hy'; obtain rfl := Option.some.inj hy'
    obtain ⟨e1, e2, e3⟩ := (show _ ∧ _ ∧ _ from hat)
    have hx2 : x < 2 := by
      obtain ⟨g', hg', hx'⟩ := hok.gate b b1
      rw [hx] at hx'
      have := Option.some.inj hx'
      omega
    refine (gestep_gate hs.mem e1 e2 (hG _ (.inl rfl)) (hG _ (.inr rfl)) t0 t1 (by omega) x (by rw [show ((B : Int) + 4 * (b : Int)).toNat = B + 4 * b by omega]; exact hx) (by omega)).mono ?_
    rintro e w' ⟨rfl, G', m1, q1, q2, q3⟩
    have nn : ∀ k, gphas (.en t s b none false, p) k → ¬ G' k := fun k hk e => (q3 k e).elim (hG k hk) (fun e => by have := hlt k hk; omega)
    refine ⟨rfl, .en t s b (some x) false, p, rfl, rfl, rfl, h.one hs hp m1 ⟨q2.at e1 (fun e => e.elim (hG _ (.inl rfl)) e3), ?_, e3⟩ (q2.mono fun k _ e => e.elim .inl (fun e => .inr (.inr e))) q3 (fun k hk => ⟨nn k hk, .inl hk⟩) rfl (fun k => glk_eq (by simp) (fun s' z hz => ?_) k)⟩
    · have : gcnt B b (some x) = (B : Int) + 4 * b + 1 + (x % 2 : Nat) := by simp only [gcnt]; omega
      show SecAt _ _ (gcnt B b (some x)) false
      rw [this]; exact q1
    · by_cases e : s' = s
      · subst e
        rw [hy] at hz; obtain rfl := Option.some.inj hz
        refine ⟨_, put_self hy _, by simp [y2, gph], fun _ => ?_⟩
        simp only
        rw [put_self hp, y1, hp]; rfl
      · refine ⟨z, by rw [List.getElem?_set, if_neg (fun h => e h.symm)]; exact hz, Iff.rfl, fun _ => ?_⟩
        by_cases e' : z.ow = i
        · rw [e', put_self hp, hp]; rfl
        · rw [List.getElem?_set, if_neg (fun h => e' h.symm)]
  | @count t s b c x y h1 hy hx =>
    rw [hoi] at h1; obtain rfl := Option.some.inj h1
    obtain ⟨t0, t1, s1, b1, hc, -, hl⟩ := hoo
    obtain ⟨y', hy', y1, y2, -⟩ := hl rfl
    rw [hy] at hy'; obtain rfl := Option.some.inj hy'
    obtain ⟨e1, e2, e3⟩ := (show _ ∧ _ ∧ _ from hat)
    obtain ⟨x0, x1⟩ := hok.wok x (List.mem_of_getElem? hx)
    refine (gestep_count hs.mem e1 (B + 4 * b + 1 + c) e2 (hG _ (.inl rfl)) (hG _ (.inr rfl)) t0 t1 x hx x0 x1 (by omega)).mono ?_
    rintro e w' ⟨rfl, G', m1, q1, q2, q3⟩
    have nn : ∀ k, gphas (.en t s b (some c) false, p) k → ¬ G' k := fun k hk e => (q3 k e).elim (hG k hk) (fun e => by have := hlt k hk; omega)
    rw [show ((B + 4 * b + 1 + c : Nat) : Int) = (B : Int) + 4 * b + 1 + c by omega] at m1
    refine ⟨rfl, .en t s b (some c) true, p, rfl, rfl, rfl, h.one hs hp m1 ⟨q2.at e1 (fun e => e.elim (hG _ (.inl rfl)) e3), q1, e3⟩ (q2.mono fun k _ e => e.elim .inl (fun e => .inr (.inr e))) q3 (fun k hk => ⟨nn k hk, .inl hk⟩) rfl (fun k => glk_eq (by simp) (fun s' z hz => ?_) k)⟩
    by_cases e : s' = s
    · subst e
      rw [hy] at hz; obtain rfl := Option.some.inj hz
      refine ⟨_, put_self hy _, by simp [y2, gph], fun _ => ?_⟩
      simp only
      rw [put_self hp, y1, hp]; rfl
    · refine ⟨z, by rw [List.getElem?_set, if_neg (fun h => e h.symm)]; exact hz, Iff.rfl, fun _ => ?_⟩
      by_cases e' : z.ow = i
      · rw [e', put_self hp, hp]; rfl
      · rw [List.getElem?_set, if_neg (fun h => e' h.symm)]
  | @idle t s b c h1 =>
    rw [hoi] at h1; obtain rfl := Option.some.inj h1
    obtain ⟨e1, e2, e3⟩ := (show _ ∧ _ ∧ _ from hat)
    refine (gestep_idle e1 e2).mono ?_
    rintro e w' ⟨rfl, rfl⟩
    exact ⟨rfl, _, p, (set_eq hoi).symm, rfl, rfl, by rw [set_eq hp]; exact h.same (Keep.refl _ _)⟩
  | @wait t st side f st' side' f' left left' ws' a h1 hw =>
    rw [hoi] at h1; obtain rfl := Option.some.inj h1
    obtain ⟨t0, t1, h6, hsd, hl, hle, hf⟩ := hoo
    have hat' : GWtAt w p.a p.b g mb t B p.v f st side left := hat
    have := gwstep_any hs.mem hs.eng hs.fg hat' (fun k hk => hG k hk) t0 t1 (by omega) (by omega) hsd hl (by omega) (by omega) (by omega) hw
    rw [← gwpc_eq] at this
    refine this.mono ?_
    rintro e w' ⟨rfl, G', lb', lv', m1, q1, q2, q3, q4, q5, q6⟩
    refine ⟨rfl, .wa t st' side' left' f', ⟨p.a, lb', lv'⟩, rfl, rfl, rfl, h.one hs hp m1 q1 (q2.mono fun k _ e => e.elim .inl (fun e => .inr (e.elim .inl (fun e => .inr (.inl e))))) q3 (fun k hk => ⟨q6 k hk, ?_⟩) rfl (fun k => glk_eq rfl (fun s' z hz => ⟨z, hz, Iff.rfl, fun hne => ?_⟩) k)⟩
    · rcases hk with e | e | e
      · exact .inl (.inl e)
      · rcases q5 with e' | e'
        · exact .inl (.inr (.inl (e.trans e')))
        · exact .inr (by show w.heap.size ≤ k; rw [e]; exact e')
      · exact .inl (.inr (.inr (q4 k e)))
    · obtain ⟨-, -, -, z4⟩ := hok.sls s' z hz
      obtain ⟨-, t', c, dn, c2, -⟩ := z4 hne
      rw [List.getElem?_set, if_neg (fun e => ?_)]
      rw [← e, hoi] at c2; cases c2
  | @over t side f left h1 =>
    rw [hoi] at h1; obtain rfl := Option.some.inj h1
    obtain ⟨⟨lp, q, -⟩, -⟩ := (show GWtAt _ _ _ _ _ _ _ _ _ _ _ _ from hat)
    refine (gwstep_over q (by omega)).mono ?_
    rintro e w' ⟨rfl, rfl⟩
    exact ⟨rfl, _, p, (set_eq hoi).symm, rfl, rfl, by rw [set_eq hp]; exact h.same (Keep.refl _ _)⟩

theorem map_a_set {bo : List (GOp × GPB)} {i : Nat} {o o' : GOp} {p p' : GPB} (hp : bo[i]? = some (o, p)) (ha : p'.a = p.a) : (bo.set i (o', p')).map (fun o => o.2.a) = bo.map (fun o => o.2.a) := by
  rw [List.map_set]
  exact set_eq (by simp [hp, ha])
theorem gpstep_any (h : GPAt g r mb B n w A S bo F ml) (hok : S.ok B n K) (hB : B ≤ 20) (hn : n ≤ 9) (hK : K ≤ 10000) {i : Nat} {o : GOp} {p : GPB} (hp : bo[i]? = some (o, p)) {pc : Int} {d : Bool} (hst : Go.Lf.GStep B S i S' pc d) :
    Calls Tryz.prog (GOp.pstep o) #[ptr p.a] w fun e w' => ∃ bo', (e = .returned (.tuple #[.int .u8 pc, .bool d]) ∧ bo'.map (fun o => o.2.a) = bo.map (fun o => o.2.a)) ∧ (GLies g r mb B n).To w A (S', bo') w' := by
  refine (gpstep h hok hB hn hK hp hst).mono ?_
  rintro e w' ⟨rfl, o', p', -, h2, -, h4⟩
  exact ⟨_, ⟨rfl, map_a_set hp h2⟩, h4⟩
/-! Beginnings and exits. -/
/-- A new operation, with the system turned. -/
theorem GPAt.new (h : GPAt g r mb B n w A S bo F ml) {G : Nat → Prop} (hs : GSys g r mb B n w F ml S.ws S.log G) {ml' : List (Int × Value)} {o : GOp} {p : GPB} (he : GEngAt w' g r mb (B : Int) n ml') (ho : gpat g mb B w' (o, p)) (hk : Keep (fun k => k = r) w w') (hn : ∀ k, gphas (o, p) k → w.heap.size ≤ k) (hops : S'.ops = S.ops ++ [o]) (hws : S'.ws = S.ws) (hlog : S'.log = S.log) (hml : GMl S' (bo ++ [(o, p)]) ml') :
    (GLies g r mb B n).To w A (S', bo ++ [(o, p)]) w' := by
  have hm : MemAt w' mb G S'.ws S'.log := by rw [hws, hlog]; exact hs.mem.keep hk (fun k hk e => hs.fr (e ▸ hk))
  obtain ⟨h1, h2⟩ := hs.mk' (S' := S') hm he (fun k hk => .inl hk)
  have hlt := (GPS g r mb B n).lt h.ob.sys
  have nF : ∀ k, gphas (o, p) k → ¬ (G k ∨ k = g ∨ k = r) := fun k hk' e => by
    have := hlt k ((hs.foot k).2 e)
    have := hn k hk'
    omega
  obtain ⟨A', a1, a2, a3⟩ := h.ob.new (s' := (ml', S'.ws, S'.log)) (o := (o, p)) ⟨G, h1⟩ ho (hk.mono fun k _ e => (hs.foot k).2 (.inr (.inr e))) h2 (fun k hk' => ⟨nF k hk', hn k hk'⟩)
  exact ⟨A', ⟨_, ml', a1, by rw [hops, h.ops]; simp, hml⟩, a2, a3⟩
theorem gpenter_ok (h : GPAt g r mb B n w A S bo F ml) (hok : S.ok B n K) (hB : B ≤ 20) (hn0 : 1 ≤ n) (hn : n ≤ 9) {t : Int} {s v : Nat} {x : GSl} (t0 : 0 ≤ t) (t1 : t < 64) (hv : v < 64) (hx : S.sl[s]? = some x) (hp : x.ph = 0) :
    Calls Tryz.prog 156 #[ptr g, .int .i64 t, .int .i64 s, .int .i64 v] w fun e w' => ∃ p, e = .returned (.tuple #[ptr p.a, .int .i64 0]) ∧ (GLies g r mb B n).To w A (S.begun t s (v % n) x, bo ++ [(.en t s (v % n) none false, p)]) w' := by
  obtain ⟨G, hs⟩ := h.sys
  have hs64 : s < 64 := by have := (List.getElem?_eq_some_iff.1 hx).1; have := hok.ls; omega
  have hno : mlook ml s = none := by rw [h.glk, glk_at hx, if_pos hp]
  have lb : S.ops.length = bo.length := by rw [h.ops]; simp
  have her : genErr t s v (mlook ml s).isSome = 0 := by
    rw [hno]
    have : gsErr t s = 0 := by unfold gsErr; rw [if_neg (by omega), if_neg (by omega)]
    unfold genErr
    rw [if_neg (by rw [this]; simp), if_neg (by omega)]; rfl
  refine (genter_ok hs.eng t s v her (by omega) (by omega) hn0 (by omega)).mono ?_
  rintro e w' ⟨eb, sb, rfl, q1, q2, q3, q4, q5, q6⟩
  refine ⟨⟨eb, sb, .nilFunc⟩, rfl, h.new hs q1 ⟨q2, q3, gtype_ne q2 q3 (by decide)⟩ q4 (fun k hk => hk.elim (fun e => by rw [e]; exact q5) (fun e => by rw [e]; exact q6)) rfl rfl rfl ⟨mkeys_put_nodup h.ml.1 _ _, fun k => ?_⟩⟩
  rw [mlook_put, h.glk]
  show _ = Go.Lf.glk (S.sl.set s ⟨1, v % n, x.sd, S.ops.length⟩) (bo ++ [(.en t s (v % n) none false, ⟨eb, sb, .nilFunc⟩)]) k
  by_cases e : k = s
  · subst e
    rw [if_pos rfl, glk_at (put_self hx _), if_neg (by simp), lb, List.getElem?_append_right (Nat.le_refl _), Nat.sub_self]; rfl
  · rw [if_neg e]
    unfold Go.Lf.glk
    by_cases e0 : k < 0
    · rw [if_pos e0, if_pos e0]
    · rw [if_neg e0, if_neg e0, List.getElem?_set, if_neg (by omega)]
      cases hz : S.sl[k.toNat]? with
      | none => rfl
      | some z =>
        simp only [Option.bind_some]
        by_cases e1 : z.ph = 0
        · rw [if_pos e1, if_pos e1]
        · rw [if_neg e1, if_neg e1]
          obtain ⟨-, -, -, z4⟩ := hok.sls _ z hz
          obtain ⟨-, t', c, dn, c2, -⟩ := z4 e1
          rw [List.getElem?_append_left (by have := (List.getElem?_eq_some_iff.1 c2).1; omega)]
theorem gpexit_ok (h : GPAt g r mb B n w A S bo F ml) (hok : S.ok B n K) (hB : B ≤ 20) (hn : n ≤ 9) (hK : K ≤ 10000) {t : Int} {s : Nat} {x : GSl} {y : Int} (t0 : 0 ≤ t) (t1 : t < 64) (hx : S.sl[s]? = some x) (hp : x.ph = 3) (hy : S.ws[B + 4 * x.b + 1 + x.sd]? = some y) :
    Calls Tryz.prog 157 #[ptr g, .int .i64 t, .int .i64 s] w fun e w' => e = .returned (.tuple #[.int .u8 16, .int .i64 0]) ∧ (GLies g r mb B n).To w A (S.left B t s x y, bo) w' := by
  obtain ⟨G, hs⟩ := h.sys
  have hs64 : s < 64 := by have := (List.getElem?_eq_some_iff.1 hx).1; have := hok.ls; omega
  have ll := hok.llog
  obtain ⟨z1, z2, z3, z4⟩ := hok.sls s x hx
  obtain ⟨b1, t', c, dn, c2, c3, c4⟩ := z4 (by omega)
  have hc := c4 (by omega)
  subst hc
  have hdn : dn = true := by
    cases dn with
    | true => rfl
    | false => rw [hp] at c3; simp [gph] at c3
  subst hdn
  obtain ⟨p, hbo, hat, hF⟩ := h.at c2
  obtain ⟨e1, e2, e3⟩ := (show _ ∧ _ ∧ _ from hat)
  have hlk : mlook ml s = some (ptr p.b) := by rw [h.glk, glk_at hx, if_neg (by omega), hbo]; rfl
  obtain ⟨y0, y1⟩ := hok.wok y (List.mem_of_getElem? hy)
  refine (gexit_ok (B + 4 * x.b + 1 + x.sd) y hs.mem hs.eng hs.fg hs.fr t s (by unfold gsErr; rw [if_neg (by omega), if_neg (by omega)]) hlk e2 (fun e => hF p.b (.inr rfl) ((hs.foot _).2 (.inl e))) hy y0 y1 (by omega)).mono ?_
  rintro e w' ⟨rfl, G', m1, q1, q2, q3⟩
  rw [show ((B + 4 * x.b + 1 + x.sd : Nat) : Int) = (B : Int) + 4 * x.b + 1 + x.sd by omega] at m1
  obtain ⟨h1, h2⟩ := hs.mk' (S' := S.left B t s x y) m1 q1 q3
  obtain ⟨A', a1, a2, a3⟩ := h.ob.none (s' := (mdel ml s, (S.left B t s x y).ws, (S.left B t s x y).log)) ⟨G', h1⟩ (q2.mono fun k _ e => (hs.foot k).2 (e.elim .inl (fun e => .inr (.inr e)))) h2
  refine ⟨rfl, A', ⟨_, _, a1, h.ops, mkeys_del_nodup h.ml.1 _, fun k => ?_⟩, a2, a3⟩
  rw [mlook_del h.ml.1, h.glk]
  show _ = Go.Lf.glk (S.sl.set s ⟨0, x.b, x.sd, x.ow⟩) bo k
  by_cases e : k = s
  · subst e
    rw [if_pos rfl, glk_at (put_self hx _), if_pos rfl]
  · rw [if_neg e]
    unfold Go.Lf.glk
    by_cases e0 : k < 0
    · rw [if_pos e0, if_pos e0]
    · rw [if_neg e0, if_neg e0, List.getElem?_set, if_neg (by omega)]
theorem lvAt_lt {lv : Value} {b : Nat} {rest : List Nat} (h : LvAt w lv (b :: rest)) {k : Nat} (hk : lv.ownBlock = some k) : k < w.heap.size := by
  obtain ⟨a, c, rfl, hr, hc⟩ := h
  obtain ⟨q, off, c', hv, hcell⟩ := hr.cell (by simp)
  simp only [Value.slice.injEq] at hv
  obtain ⟨rfl, -, rfl⟩ := hv
  have : q = k := by simpa [Value.ownBlock] using hk
  subst this
  exact World.block_lt_of_cell? w _ (hcell 0 _ rfl)
theorem gpwait_ok (h : GPAt g r mb B n w A S bo F ml) (hok : S.ok B n K) (hB : B ≤ 20) (hn0 : 1 ≤ n) (hn : n ≤ 9) {t : Int} {set : Nat} (t0 : 0 ≤ t) (t1 : t < 64) (s0 : set ≠ 0) (s1 : set < 18446744073709551616) :
    Calls Tryz.prog 159 #[ptr g, .int .i64 t, .int .u64 set] w fun e w' => ∃ p, e = .returned (.tuple #[ptr p.a, .int .i64 0]) ∧ (GLies g r mb B n).To w A (S.waits t (bkts set n), bo ++ [(.wa t 0 0 (bkts set n) 0, p)]) w' := by
  obtain ⟨G, hs⟩ := h.sys
  have lw := hok.lw
  have hne : bkts set n ≠ [] := by
    obtain ⟨v, hv⟩ : ∃ v, set.testBit v = true := by
      refine Classical.byContradiction fun h => s0 ?_
      apply Nat.eq_of_testBit_eq
      intro i
      rw [Nat.zero_testBit]
      cases hb : set.testBit i with
      | false => rfl
      | true => exact absurd ⟨i, hb⟩ h
    have hv64 : v < 64 := by
      refine Classical.byContradiction fun h => ?_
      rw [Nat.testBit_lt_two_pow (Nat.lt_of_lt_of_le s1 (Nat.pow_le_pow_right (n := 2) (by decide) (show 64 ≤ v by omega)))] at hv
      cases hv
    intro e
    have : v % n ∈ bkts set n := mem_bkts.2 ⟨Nat.mod_lt _ (by omega), inB_iff.2 ⟨v, hv64, rfl, hv⟩⟩
    rw [e] at this
    cases this
  refine (gwait_ok hs.mem hs.eng t set t0 t1 s0 s1 (by omega) (by omega) hn0 (by omega) (fun b hb => ?_)).mono ?_
  · have := (mem_bkts.1 hb).1
    unfold lckErr
    rw [if_neg (by omega), if_neg (by omega)]
  · rintro e w' ⟨wb, lv, lp, rfl, q1, q2, q3, q4, q5, q6⟩
    obtain ⟨b0, r0, hbr⟩ := List.exists_cons_of_ne_nil hne
    obtain ⟨lb, rfl, q7, q8, q9, q10⟩ := q6 b0 r0 hbr
    rw [if_neg hne] at q1
    refine ⟨⟨wb, lb, lv⟩, rfl, h.new hs (hs.eng.keep q3 (fun e => e) (fun e => e)) (show gpat g mb B w' (.wa t 0 0 (bkts set n) 0, ⟨wb, lb, lv⟩) from ⟨⟨ptr lb, q1, fun _ => rfl⟩, q2, fun k hk => ⟨(q5 k hk).2, q9 k hk, lvAt_lt (hbr ▸ q2) hk⟩, q8, lt_of_block q10, fun _ b r hl => ?_⟩) (q3.mono fun _ _ e => e.elim) (fun k hk => ?_) rfl rfl rfl ⟨h.ml.1, fun k => (h.glk k).trans ?_⟩⟩
    · rw [hbr] at hl
      simp only [List.cons.injEq] at hl
      obtain ⟨rfl, rfl⟩ := hl
      exact q10
    · rcases hk with e | e | e
      · rw [e]; exact q4
      · rw [e]; exact q7
      · exact (q5 k e).1
    · refine (glk_eq (sl' := S.sl) (bo' := bo ++ [(.wa t 0 0 (bkts set n) 0, ⟨wb, lb, lv⟩)]) rfl (fun s' z hz => ⟨z, hz, Iff.rfl, fun hne => ?_⟩) k).symm
      obtain ⟨-, -, -, z4⟩ := hok.sls s' z hz
      obtain ⟨-, t', c, dn, c2, -⟩ := z4 hne
      have lb : S.ops.length = bo.length := by rw [h.ops]; simp
      rw [List.getElem?_append_left (by have := (List.getElem?_eq_some_iff.1 c2).1; omega)]
/-- Whether slot k is entered. -/
def gIn (S : GSt) (k : Nat) : Bool := match S.sl[k]? with
  | some x => x.ph == 3
  | none => false
/-- Errors. -/
theorem gpenter_err (h : GPAt g r mb B n w A S bo F ml) (t s v : Int) (he : genErr t s v (glk S.sl bo s).isSome ≠ 0) : Calls Tryz.prog 156 #[ptr g, .int .i64 t, .int .i64 s, .int .i64 v] w fun e w' => e = .returned (.tuple #[.pointer none, .int .i64 (genErr t s v (glk S.sl bo s).isSome)]) ∧ w = w' := by
  obtain ⟨G, hs⟩ := h.sys
  rw [← h.glk] at he ⊢
  exact genter_err hs.eng t s v he
theorem gpexit_err (h : GPAt g r mb B n w A S bo F ml) (t s : Int) (he : gsErr t s ≠ 0) : Calls Tryz.prog 157 #[ptr g, .int .i64 t, .int .i64 s] w fun e w' => e = .returned (.tuple #[.int .u8 0, .int .i64 (gsErr t s)]) ∧ w = w' := by
  obtain ⟨G, hs⟩ := h.sys
  exact gexit_err hs.eng t s he
theorem gpexit_state (h : GPAt g r mb B n w A S bo F ml) (hok : S.ok B n K) (t : Int) (s : Nat) {x : GSl} (he : gsErr t s = 0) (hx : S.sl[s]? = some x) (hp : x.ph ≠ 3) : Calls Tryz.prog 157 #[ptr g, .int .i64 t, .int .i64 s] w fun e w' => e = .returned (.tuple #[.int .u8 0, .int .i64 8]) ∧ w = w' := by
  obtain ⟨G, hs⟩ := h.sys
  obtain ⟨z1, z2, z3, z4⟩ := hok.sls s x hx
  by_cases e : x.ph = 0
  · exact gexit_none hs.eng t s he (by rw [h.glk, glk_at hx, if_pos e])
  · obtain ⟨b1, t', c, dn, c2, c3, c4⟩ := z4 e
    obtain ⟨p, hbo, hat, hF⟩ := h.at c2
    obtain ⟨e1, e2, e3⟩ := (show _ ∧ _ ∧ _ from hat)
    have hdn : dn = false := by
      cases dn with
      | false => rfl
      | true => exact absurd c3.symm hp
    subst hdn
    exact gexit_begun hs.eng t s he (by rw [h.glk, glk_at hx, if_neg e, hbo]; rfl) e2
end
end Go.Proofs.YtldjlcdccnnogaaGreat
