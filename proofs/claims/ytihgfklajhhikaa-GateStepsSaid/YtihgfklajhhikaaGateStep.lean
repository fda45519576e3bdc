/- gate: Wait.Step, Next; Enter.Step, Next: contracts over what the states' functions do. -/
import Derived.Test.YtihgfklajhhikaaGateWait
set_option linter.unusedVariables false
set_option linter.unusedSimpArgs false
namespace Go.Proofs.Ytihgfklajhhikaa
open Go.RowKit Go.Lf
theorem s_eqf (w : World) (f : Fn) (x y : Array Value) : (binOp .eql 202 (.func f x y) .nilFunc).run Try.prog w = .ok (.bool false) w := run_eql_func w Try.underlying202 f x y
theorem s_eqn (w : World) : (binOp .eql 202 .nilFunc .nilFunc).run Try.prog w = .ok (.bool true) w := run_eql_nilf w Try.underlying202
attribute [local go_sem] s_eqf s_eqn
section
variable {w : World} {g mb wb : Nat} {F : Nat → Prop} {base : Int} {ws : List Int} {log : List Acc} {t side : Int} {lv lp : Value} {st : Nat}
set_option maxHeartbeats 1000000 in
theorem gwnext_any (hw : GHead w wb g t lv lp side st) : Calls Try.prog 106 #[ptr wb] w fun e w' => e = .returned (.int .u8 (gpc st)) ∧ w = w' := by
  have p5 := hw.cells.2.2.2.2.2.1
  clear hw
  go_enter Try.func106, Try.ntmps106
  go_wp2
  go_ret
  exact ⟨rfl, rfl⟩
theorem gwnext_nil : Calls Try.prog 106 #[.pointer none] w fun e w' => e = .returned (.int .u8 0) ∧ w = w' := by
  go_enter Try.func106, Try.ntmps106
  go_wp2
  go_ret
  exact ⟨rfl, rfl⟩
theorem gwstep_nil : Calls Try.prog 57 #[.pointer none] w fun e w' => e = .returned (.tuple #[.int .u8 0, .bool false]) ∧ w = w' := by
  go_enter Try.func57, Try.ntmps57
  go_wp2
  go_ret2
  exact ⟨rfl, rfl⟩
theorem gwstep_over (hw : GHead w wb g t lv lp side st) (h : 6 ≤ st) : Calls Try.prog 57 #[ptr wb] w fun e w' => e = .returned (.tuple #[.int .u8 0, .bool false]) ∧ w = w' := by
  have p5 := hw.cells.2.2.2.2.2.1
  have p6 := hw.cells.2.2.2.2.2.2
  obtain ⟨k, rfl⟩ : ∃ k, st = 6 + k := ⟨st - 6, by omega⟩
  rw [show gfn (6 + k) = .nilFunc by rw [Nat.add_comm]; rfl] at p6
  clear hw
  go_enter Try.func57, Try.ntmps57
  go_wp2
  go_ret2
  exact ⟨rfl, rfl⟩
/-- The wait's block at another state. -/
theorem GHead.at {w1 : World} {lv' lp' : Value} {side' : Int} {st0 : Nat} (h : GHead w1 wb g t lv' lp' side' st0) (k : Nat) (p : Int) (f : Value) (hp : p = gpc k) (hf : f = gfn k) : GHead ((w1.setCell ⟨wb, 5, none⟩ (.int .u8 p)).setCell ⟨wb, 6, none⟩ f) wb g t lv' lp' side' k := by
  subst hp; subst hf
  exact set_same (i := 6) (set_same (i := 5) h _) _
theorem keep_set56 (w : World) (b : Nat) (u v : Value) : Keep (fun k => k = b) w ((w.setCell ⟨b, 5, none⟩ u).setCell ⟨b, 6, none⟩ v) :=
  Keep.setCell (S := fun k => k = b) (p := ⟨b, 6, none⟩) (Keep.setCell (S := fun k => k = b) (p := ⟨b, 5, none⟩) (Keep.refl _ w) (.inl rfl) u) (.inl rfl) v
/-- A step of a wait: the state's function is called, and its state stored. -/
def GStepTo (Q : World → Prop) (wb g : Nat) (t : Int) (k : Nat) (w' : World) : Prop := ∃ w1, Q w1 ∧ Keep (fun k => k = wb) w1 w' ∧ ∀ lv lp side st0, GHead w1 wb g t lv lp side st0 → GHead w' wb g t lv lp side k
set_option maxRecDepth 100000 in
set_option maxHeartbeats 2000000 in
theorem gwstep0 {Q : World → Prop} (hw : GHead w wb g t lv lp side 0) (k : Nat) (hQ : ∀ w1, Q w1 → ∃ lv lp side st0, GHead w1 wb g t lv lp side st0) (hk : k ≤ 6) (hc : Calls Try.prog 123 #[ptr wb] w fun e w' => e = .returned (.agg #[.int .u8 (gpc k), gfn k]) ∧ Q w') :
    Calls Try.prog 57 #[ptr wb] w fun e w' => e = .returned (.tuple #[.int .u8 2, .bool (k == 6)]) ∧ GStepTo Q wb g t k w' := by
  have p5 := hw.cells.2.2.2.2.2.1
  have p6 := hw.cells.2.2.2.2.2.2
  simp only [gpc, gfn] at p5 p6
  have HC := hid hc
  have HQ := hid hQ
  clear hw hc hQ
  have hk' : k = 0 ∨ k = 1 ∨ k = 2 ∨ k = 3 ∨ k = 4 ∨ k = 5 ∨ k = 6 := by omega
  clear hk
  rcases hk' with rfl | rfl | rfl | rfl | rfl | rfl | rfl
  all_goals
    simp only [gpc, gfn] at HC
    go_enter Try.func57, Try.ntmps57
    go_wp2_with fail
    refine HC.out.mono ?_
    rintro e w1 ⟨rfl, hq⟩
    obtain ⟨lv1, lp1, side1, st1, hd⟩ := HQ.out w1 hq
    have z5 : w1.frozen? ⟨wb, 5, none⟩ = false := free_of hd 5
    have z6 : w1.frozen? ⟨wb, 6, none⟩ = false := free_of hd 6
    have y5 := cell_of hd 5
    have y6 := cell_of hd 6
    have QQ := hid hq
    clear hq hd HC HQ p5 p6
    go_wp2
    go_quiet (fail)
    go_wp2
    go_ret2
    exact ⟨rfl, w1, QQ.out, (keep_set56 w1 wb _ _).drewN nq, fun lv lp side st0 h => h.at _ _ _ rfl rfl⟩
set_option maxRecDepth 100000 in
set_option maxHeartbeats 2000000 in
theorem gwstep1 {Q : World → Prop} (hw : GHead w wb g t lv lp side 1) (k : Nat) (hQ : ∀ w1, Q w1 → ∃ lv lp side st0, GHead w1 wb g t lv lp side st0) (hk : k ≤ 6) (hc : Calls Try.prog 134 #[ptr wb] w fun e w' => e = .returned (.agg #[.int .u8 (gpc k), gfn k]) ∧ Q w') :
    Calls Try.prog 57 #[ptr wb] w fun e w' => e = .returned (.tuple #[.int .u8 15, .bool (k == 6)]) ∧ GStepTo Q wb g t k w' := by
  have p5 := hw.cells.2.2.2.2.2.1
  have p6 := hw.cells.2.2.2.2.2.2
  simp only [gpc, gfn] at p5 p6
  have HC := hid hc
  have HQ := hid hQ
  clear hw hc hQ
  have hk' : k = 0 ∨ k = 1 ∨ k = 2 ∨ k = 3 ∨ k = 4 ∨ k = 5 ∨ k = 6 := by omega
  clear hk
  rcases hk' with rfl | rfl | rfl | rfl | rfl | rfl | rfl
  all_goals
    simp only [gpc, gfn] at HC
    go_enter Try.func57, Try.ntmps57
    go_wp2_with fail
    refine HC.out.mono ?_
    rintro e w1 ⟨rfl, hq⟩
    obtain ⟨lv1, lp1, side1, st1, hd⟩ := HQ.out w1 hq
    have z5 : w1.frozen? ⟨wb, 5, none⟩ = false := free_of hd 5
    have z6 : w1.frozen? ⟨wb, 6, none⟩ = false := free_of hd 6
    have y5 := cell_of hd 5
    have y6 := cell_of hd 6
    have QQ := hid hq
    clear hq hd HC HQ p5 p6
    go_wp2
    go_quiet (fail)
    go_wp2
    go_ret2
    exact ⟨rfl, w1, QQ.out, (keep_set56 w1 wb _ _).drewN nq, fun lv lp side st0 h => h.at _ _ _ rfl rfl⟩
set_option maxRecDepth 100000 in
set_option maxHeartbeats 2000000 in
theorem gwstep2 {Q : World → Prop} (hw : GHead w wb g t lv lp side 2) (k : Nat) (hQ : ∀ w1, Q w1 → ∃ lv lp side st0, GHead w1 wb g t lv lp side st0) (hk : k ≤ 6) (hc : Calls Try.prog 139 #[ptr wb] w fun e w' => e = .returned (.agg #[.int .u8 (gpc k), gfn k]) ∧ Q w') :
    Calls Try.prog 57 #[ptr wb] w fun e w' => e = .returned (.tuple #[.int .u8 19, .bool (k == 6)]) ∧ GStepTo Q wb g t k w' := by
  have p5 := hw.cells.2.2.2.2.2.1
  have p6 := hw.cells.2.2.2.2.2.2
  simp only [gpc, gfn] at p5 p6
  have HC := hid hc
  have HQ := hid hQ
  clear hw hc hQ
  have hk' : k = 0 ∨ k = 1 ∨ k = 2 ∨ k = 3 ∨ k = 4 ∨ k = 5 ∨ k = 6 := by omega
  clear hk
  rcases hk' with rfl | rfl | rfl | rfl | rfl | rfl | rfl
  all_goals
    simp only [gpc, gfn] at HC
    go_enter Try.func57, Try.ntmps57
    go_wp2_with fail
    refine HC.out.mono ?_
    rintro e w1 ⟨rfl, hq⟩
    obtain ⟨lv1, lp1, side1, st1, hd⟩ := HQ.out w1 hq
    have z5 : w1.frozen? ⟨wb, 5, none⟩ = false := free_of hd 5
    have z6 : w1.frozen? ⟨wb, 6, none⟩ = false := free_of hd 6
    have y5 := cell_of hd 5
    have y6 := cell_of hd 6
    have QQ := hid hq
    clear hq hd HC HQ p5 p6
    go_wp2
    go_quiet (fail)
    go_wp2
    go_ret2
    exact ⟨rfl, w1, QQ.out, (keep_set56 w1 wb _ _).drewN nq, fun lv lp side st0 h => h.at _ _ _ rfl rfl⟩
set_option maxRecDepth 100000 in
set_option maxHeartbeats 2000000 in
theorem gwstep3 {Q : World → Prop} (hw : GHead w wb g t lv lp side 3) (k : Nat) (hQ : ∀ w1, Q w1 → ∃ lv lp side st0, GHead w1 wb g t lv lp side st0) (hk : k ≤ 6) (hc : Calls Try.prog 142 #[ptr wb] w fun e w' => e = .returned (.agg #[.int .u8 (gpc k), gfn k]) ∧ Q w') :
    Calls Try.prog 57 #[ptr wb] w fun e w' => e = .returned (.tuple #[.int .u8 20, .bool (k == 6)]) ∧ GStepTo Q wb g t k w' := by
  have p5 := hw.cells.2.2.2.2.2.1
  have p6 := hw.cells.2.2.2.2.2.2
  simp only [gpc, gfn] at p5 p6
  have HC := hid hc
  have HQ := hid hQ
  clear hw hc hQ
  have hk' : k = 0 ∨ k = 1 ∨ k = 2 ∨ k = 3 ∨ k = 4 ∨ k = 5 ∨ k = 6 := by omega
  clear hk
  rcases hk' with rfl | rfl | rfl | rfl | rfl | rfl | rfl
  all_goals
    simp only [gpc, gfn] at HC
    go_enter Try.func57, Try.ntmps57
    go_wp2_with fail
    refine HC.out.mono ?_
    rintro e w1 ⟨rfl, hq⟩
    obtain ⟨lv1, lp1, side1, st1, hd⟩ := HQ.out w1 hq
    have z5 : w1.frozen? ⟨wb, 5, none⟩ = false := free_of hd 5
    have z6 : w1.frozen? ⟨wb, 6, none⟩ = false := free_of hd 6
    have y5 := cell_of hd 5
    have y6 := cell_of hd 6
    have QQ := hid hq
    clear hq hd HC HQ p5 p6
    go_wp2
    go_quiet (fail)
    go_wp2
    go_ret2
    exact ⟨rfl, w1, QQ.out, (keep_set56 w1 wb _ _).drewN nq, fun lv lp side st0 h => h.at _ _ _ rfl rfl⟩
set_option maxRecDepth 100000 in
set_option maxHeartbeats 2000000 in
theorem gwstep4 {Q : World → Prop} (hw : GHead w wb g t lv lp side 4) (k : Nat) (hQ : ∀ w1, Q w1 → ∃ lv lp side st0, GHead w1 wb g t lv lp side st0) (hk : k ≤ 6) (hc : Calls Try.prog 144 #[ptr wb] w fun e w' => e = .returned (.agg #[.int .u8 (gpc k), gfn k]) ∧ Q w') :
    Calls Try.prog 57 #[ptr wb] w fun e w' => e = .returned (.tuple #[.int .u8 19, .bool (k == 6)]) ∧ GStepTo Q wb g t k w' := by
  have p5 := hw.cells.2.2.2.2.2.1
  have p6 := hw.cells.2.2.2.2.2.2
  simp only [gpc, gfn] at p5 p6
  have HC := hid hc
  have HQ := hid hQ
  clear hw hc hQ
  have hk' : k = 0 ∨ k = 1 ∨ k = 2 ∨ k = 3 ∨ k = 4 ∨ k = 5 ∨ k = 6 := by omega
  clear hk
  rcases hk' with rfl | rfl | rfl | rfl | rfl | rfl | rfl
  all_goals
    simp only [gpc, gfn] at HC
    go_enter Try.func57, Try.ntmps57
    go_wp2_with fail
    refine HC.out.mono ?_
    rintro e w1 ⟨rfl, hq⟩
    obtain ⟨lv1, lp1, side1, st1, hd⟩ := HQ.out w1 hq
    have z5 : w1.frozen? ⟨wb, 5, none⟩ = false := free_of hd 5
    have z6 : w1.frozen? ⟨wb, 6, none⟩ = false := free_of hd 6
    have y5 := cell_of hd 5
    have y6 := cell_of hd 6
    have QQ := hid hq
    clear hq hd HC HQ p5 p6
    go_wp2
    go_quiet (fail)
    go_wp2
    go_ret2
    exact ⟨rfl, w1, QQ.out, (keep_set56 w1 wb _ _).drewN nq, fun lv lp side st0 h => h.at _ _ _ rfl rfl⟩
set_option maxRecDepth 100000 in
set_option maxHeartbeats 2000000 in
theorem gwstep5 {Q : World → Prop} (hw : GHead w wb g t lv lp side 5) (k : Nat) (hQ : ∀ w1, Q w1 → ∃ lv lp side st0, GHead w1 wb g t lv lp side st0) (hk : k ≤ 6) (hc : Calls Try.prog 145 #[ptr wb] w fun e w' => e = .returned (.agg #[.int .u8 (gpc k), gfn k]) ∧ Q w') :
    Calls Try.prog 57 #[ptr wb] w fun e w' => e = .returned (.tuple #[.int .u8 3, .bool (k == 6)]) ∧ GStepTo Q wb g t k w' := by
  have p5 := hw.cells.2.2.2.2.2.1
  have p6 := hw.cells.2.2.2.2.2.2
  simp only [gpc, gfn] at p5 p6
  have HC := hid hc
  have HQ := hid hQ
  clear hw hc hQ
  have hk' : k = 0 ∨ k = 1 ∨ k = 2 ∨ k = 3 ∨ k = 4 ∨ k = 5 ∨ k = 6 := by omega
  clear hk
  rcases hk' with rfl | rfl | rfl | rfl | rfl | rfl | rfl
  all_goals
    simp only [gpc, gfn] at HC
    go_enter Try.func57, Try.ntmps57
    go_wp2_with fail
    refine HC.out.mono ?_
    rintro e w1 ⟨rfl, hq⟩
    obtain ⟨lv1, lp1, side1, st1, hd⟩ := HQ.out w1 hq
    have z5 : w1.frozen? ⟨wb, 5, none⟩ = false := free_of hd 5
    have z6 : w1.frozen? ⟨wb, 6, none⟩ = false := free_of hd 6
    have y5 := cell_of hd 5
    have y6 := cell_of hd 6
    have QQ := hid hq
    clear hq hd HC HQ p5 p6
    go_wp2
    go_quiet (fail)
    go_wp2
    go_ret2
    exact ⟨rfl, w1, QQ.out, (keep_set56 w1 wb _ _).drewN nq, fun lv lp side st0 h => h.at _ _ _ rfl rfl⟩
end
end Go.Proofs.Ytihgfklajhhikaa
