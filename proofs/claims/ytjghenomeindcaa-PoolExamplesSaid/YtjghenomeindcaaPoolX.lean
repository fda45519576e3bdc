/- law14: Run.give. -/
import Derived.Test.YtjghenomeindcaaPoolW
set_option linter.unusedVariables false
set_option linter.unusedSimpArgs false
namespace Go.Proofs.Ytjghenomeindcaa
open Go.RowKit Go.Lf
section
variable {w0 : Frm} {w w' : World} {c : Cfg} {R : PRun} {rb pb L t : Nat} {own own' : Nat → Option Nat} {f : Nat → Nat → Value} {S : Nat → Prop} {o : PO} {v : Value} {zs : List Int} {tag : Nat} {s : PSt} {x : Int}
theorem PlAt.lay (h : PlAt w own c pb L s) : LayAt w L c := by
  obtain ⟨A, ⟨mb, ob, gb, F, G, hp⟩, -⟩ := h
  exact hp.lay.at_
set_option maxRecDepth 100000 in
set_option maxHeartbeats 4000000 in
theorem rgive_look (h : RunAt w0 w c R rb pb L own f) (hi : PInv c R) (hok : c.ok) (hl : R.s.log.length < 1000000) (ht : t < 6) (ho : R.ops t = some o) (hgv : o.gv = true) (hpc : o.pc = 4) (hx : R.s.ws[o.at c]? = some x)  (hst0 : -1000000 < R.steps t ∧ R.steps t < 1000000) :
    Calls Try.prog 52 #[.pointer (some ⟨rb, 0, none⟩), .int .i64 (t : Int)] w fun e w' => e = .returned (.bool true) ∧ RunTo w0 c (R.go c t o x) rb pb L w' := by
  obtain ⟨k, hk, k6⟩ := hi.ht_k ht ho
  obtain ⟨tb, e0, e1, hstep⟩ := run_gstep h hi hok hl ht ho hgv hx
  have hofv : f 2 t = .int .i64 o.tw := by
    rw [h.of t ht, (hi.op t o ht ho).2.2.1, hgv]
    simp
  obtain ⟨g1, g2, g3⟩ := (hi.op t o ht ho).1.gw hgv
  rw [hk] at g3
  have HHT := hid (height_ok h.pl.lay hok g3 o.tw (by omega))
  have hop : o.op x = { o with w := x, pc := 7 } := by unfold PO.op; rw [if_pos hpc, if_pos hgv]
  have hgo : R.go c t o x = { R with s := o.st c R.s x, ops := pup R.ops t (some (o.op x)), seen := pup R.seen t (R.sw k), steps := pup R.steps t 1 } := by
    unfold PRun.go
    rw [if_pos hpc, hop, if_neg (show ¬ ((7 : Int) = 0) by decide), show o.ht - 1 = k by omega]
  obtain ⟨s', hs'⟩ : ∃ s', s' = o.st c R.s x := ⟨_, rfl⟩
  obtain ⟨o', ho'⟩ : ∃ o', o' = o.op x := ⟨_, rfl⟩
  rw [← hs'] at hstep hgo
  rw [← ho'] at hstep hop
  try rw [← ho'] at hgo
  have hdn : (o'.pc == 0) = false := by rw [hop]; rfl
  rw [hpc, hdn] at hstep
  have HSTEP := hid hstep
  have HE := hid (And.intro e0 e1)
  have HGO := hid hgo
  have q0 := h.cell0.1
  have q14 : w.cell? ⟨rb, 14 + t, none⟩ = some (.int .i64 o.tw) := hofv ▸ h.cell (j := 2) (by decide) ht
  have q8 : w.cell? ⟨rb, 8 + t, none⟩ = some (.pointer (some ⟨tb, 0, none⟩)) := e1 ▸ h.cell (j := 1) (by decide) ht
  have d1 : decide ((k : Int) + 1 < 1) = false := decide_eq_false (by omega)
  have d6 : decide (6 < (k : Int) + 1) = false := decide_eq_false (by omega)
  have wk : IntKind.i64.wrap ((k : Int) + 1 - 1) = (k : Int) := by rw [IntKind.wrap_i64]; omega
  have ek : (k : Int) + 1 - 1 = (k : Int) := by omega
  have t0 : (0 : Int) ≤ (t : Int) := by omega
  have t6 : (t : Int) < 6 := by omega
  have k0 : (0 : Int) ≤ (k : Int) := by omega
  have k6' : (k : Int) < 6 := by omega
  have ws1 : IntKind.i64.wrap (R.steps t + 1) = R.steps t + 1 := by rw [IntKind.wrap_i64]; omega
  clear h hi hx hofv hstep hgo hop hdn hs' ho' e0 e1 hpc hgv ho hst0 g1 g2 g3 hk
  go_enter Try.func52, Try.ntmps52
  go_wp2_with fail
  refine HHT.out.mono ?_
  rintro e w9 ⟨rfl, rfl⟩
  simp only [Int.natCast_add, Int.natCast_one]
  go_wp2_with fail
  refine HSTEP.out.mono ?_
  rintro e w2 ⟨rfl, own1, h2⟩
  have q44 : w2.cell? ⟨rb, 44 + t, none⟩ = some (.int .i64 (R.steps t)) := (h2.steps t ht) ▸ h2.cell (j := 7) (by decide) ht
  have z44 : w2.frozen? ⟨rb, 44 + t, none⟩ = false := h2.free _
  have H2 := hid h2
  clear h2 q14 q8 q0
  go_wp2
  go_region
  have H3 := hid ((H2.out.setSteps ht (R.steps t + 1)).quiet ((Keep.refl Nil _).drew))
  obtain ⟨W3, hW3⟩ : ∃ W3, W3 = (w2.setCell ⟨rb, 44 + t, none⟩ (.int .i64 (R.steps t + 1))).drew := ⟨_, rfl⟩
  have H3' := hid (show RunAt w0 W3 c _ rb pb L _ _ from hW3 ▸ H3.out)
  rw [← hW3]
  clear hW3 H3 q44 z44
  have q32 : W3.cell? ⟨rb, 32 + k, none⟩ = some (.int .i64 (R.sw k)) := (H3'.out.sw k k6) ▸ H3'.out.cell (j := 5) (by decide) k6
  have q38 : W3.cell? ⟨rb, 38 + t, none⟩ = some (.int .i64 (R.seen t)) := (H3'.out.seen t ht) ▸ H3'.out.cell (j := 6) (by decide) ht
  have q44 : W3.cell? ⟨rb, 44 + t, none⟩ = some (.int .i64 (R.steps t + 1)) := by
    have := H3'.out.cell (j := 7) (i := t) (by decide) ht
    rw [fset_me] at this
    exact this
  have z38 : W3.frozen? ⟨rb, 38 + t, none⟩ = false := H3'.out.free _
  have z44 : W3.frozen? ⟨rb, 44 + t, none⟩ = false := H3'.out.free _
  go_wp2
  go_region
  have H4 := hid (((H3'.out.setSeen ht (R.sw k)).setSteps ht 1).quiet ((Keep.refl Nil _).drew))
  obtain ⟨W4, hW4⟩ : ∃ W4, W4 = ((W3.setCell ⟨rb, 38 + t, none⟩ (.int .i64 (R.sw k))).setCell ⟨rb, 44 + t, none⟩ (.int .i64 1)).drew := ⟨_, rfl⟩
  have H4' := hid (show RunAt w0 W4 c _ rb pb L _ _ from hW4 ▸ H4.out)
  rw [← hW4]
  clear hW4 H4 q32 q38 q44 z38 z44 H3'
  go_wp2
  go_ret
  have H5 := H4'.out
  refine ⟨rfl, ?_⟩
  rw [HGO.out]
  rw [pup_pup] at H5
  exact ⟨_, _, H5⟩
set_option maxRecDepth 100000 in
set_option maxHeartbeats 4000000 in
theorem rgive_onto (h : RunAt w0 w c R rb pb L own f) (hi : PInv c R) (hok : c.ok) (hl : R.s.log.length < 1000000) (ht : t < 6) (ho : R.ops t = some o) (hgv : o.gv = true) (hpc : o.pc = 7) (hx : R.s.ws[o.at c]? = some x)  (hst0 : -1000000 < R.steps t ∧ R.steps t < 1000000) :
    Calls Try.prog 52 #[.pointer (some ⟨rb, 0, none⟩), .int .i64 (t : Int)] w fun e w' => e = .returned (.bool true) ∧ RunTo w0 c (R.go c t o x) rb pb L w' := by
  obtain ⟨k, hk, k6⟩ := hi.ht_k ht ho
  obtain ⟨tb, e0, e1, hstep⟩ := run_gstep h hi hok hl ht ho hgv hx
  have hofv : f 2 t = .int .i64 o.tw := by
    rw [h.of t ht, (hi.op t o ht ho).2.2.1, hgv]
    simp
  obtain ⟨g1, g2, g3⟩ := (hi.op t o ht ho).1.gw hgv
  rw [hk] at g3
  have HHT := hid (height_ok h.pl.lay hok g3 o.tw (by omega))
  have hop : o.op x = { o with pc := 8 } := by unfold PO.op; rw [if_neg (by omega), if_neg (by omega), if_pos hpc]
  have hgo : R.go c t o x = { R with s := o.st c R.s x, ops := pup R.ops t (some (o.op x)), steps := pup R.steps t (R.steps t + 1) } := by
    unfold PRun.go
    rw [if_neg (by omega), if_pos (.inr hpc)]
  obtain ⟨s', hs'⟩ : ∃ s', s' = o.st c R.s x := ⟨_, rfl⟩
  obtain ⟨o', ho'⟩ : ∃ o', o' = o.op x := ⟨_, rfl⟩
  rw [← hs'] at hstep hgo
  rw [← ho'] at hstep hop
  try rw [← ho'] at hgo
  have hdn : (o'.pc == 0) = false := by rw [hop]; rfl
  rw [hpc, hdn] at hstep
  have HSTEP := hid hstep
  have HE := hid (And.intro e0 e1)
  have HGO := hid hgo
  have q0 := h.cell0.1
  have q14 : w.cell? ⟨rb, 14 + t, none⟩ = some (.int .i64 o.tw) := hofv ▸ h.cell (j := 2) (by decide) ht
  have q8 : w.cell? ⟨rb, 8 + t, none⟩ = some (.pointer (some ⟨tb, 0, none⟩)) := e1 ▸ h.cell (j := 1) (by decide) ht
  have d1 : decide ((k : Int) + 1 < 1) = false := decide_eq_false (by omega)
  have d6 : decide (6 < (k : Int) + 1) = false := decide_eq_false (by omega)
  have wk : IntKind.i64.wrap ((k : Int) + 1 - 1) = (k : Int) := by rw [IntKind.wrap_i64]; omega
  have ek : (k : Int) + 1 - 1 = (k : Int) := by omega
  have t0 : (0 : Int) ≤ (t : Int) := by omega
  have t6 : (t : Int) < 6 := by omega
  have k0 : (0 : Int) ≤ (k : Int) := by omega
  have k6' : (k : Int) < 6 := by omega
  have ws1 : IntKind.i64.wrap (R.steps t + 1) = R.steps t + 1 := by rw [IntKind.wrap_i64]; omega
  clear h hi hx hofv hstep hgo hop hdn hs' ho' e0 e1 hpc hgv ho hst0 g1 g2 g3 hk
  go_enter Try.func52, Try.ntmps52
  go_wp2_with fail
  refine HHT.out.mono ?_
  rintro e w9 ⟨rfl, rfl⟩
  simp only [Int.natCast_add, Int.natCast_one]
  go_wp2_with fail
  refine HSTEP.out.mono ?_
  rintro e w2 ⟨rfl, own1, h2⟩
  have q44 : w2.cell? ⟨rb, 44 + t, none⟩ = some (.int .i64 (R.steps t)) := (h2.steps t ht) ▸ h2.cell (j := 7) (by decide) ht
  have z44 : w2.frozen? ⟨rb, 44 + t, none⟩ = false := h2.free _
  have H2 := hid h2
  clear h2 q14 q8 q0
  go_wp2
  go_region
  have H3 := hid ((H2.out.setSteps ht (R.steps t + 1)).quiet ((Keep.refl Nil _).drew))
  obtain ⟨W3, hW3⟩ : ∃ W3, W3 = (w2.setCell ⟨rb, 44 + t, none⟩ (.int .i64 (R.steps t + 1))).drew := ⟨_, rfl⟩
  have H3' := hid (show RunAt w0 W3 c _ rb pb L _ _ from hW3 ▸ H3.out)
  rw [← hW3]
  clear hW3 H3 q44 z44
  go_wp2
  go_ret
  have H5 := H3'.out
  refine ⟨rfl, ?_⟩
  rw [HGO.out]
  exact ⟨_, _, H5⟩
set_option maxRecDepth 100000 in
set_option maxHeartbeats 4000000 in
theorem rgive_no (h : RunAt w0 w c R rb pb L own f) (hi : PInv c R) (hok : c.ok) (hl : R.s.log.length < 1000000) (ht : t < 6) (ho : R.ops t = some o) (hgv : o.gv = true) (hpc : o.pc = 8) (hx : R.s.ws[o.at c]? = some x) (hw : x ≠ o.w) (hst0 : -1000000 < R.steps t ∧ R.steps t < 1000000) :
    Calls Try.prog 52 #[.pointer (some ⟨rb, 0, none⟩), .int .i64 (t : Int)] w fun e w' => e = .returned (.bool true) ∧ RunTo w0 c (R.go c t o x) rb pb L w' := by
  obtain ⟨k, hk, k6⟩ := hi.ht_k ht ho
  obtain ⟨tb, e0, e1, hstep⟩ := run_gstep h hi hok hl ht ho hgv hx
  have hofv : f 2 t = .int .i64 o.tw := by
    rw [h.of t ht, (hi.op t o ht ho).2.2.1, hgv]
    simp
  obtain ⟨g1, g2, g3⟩ := (hi.op t o ht ho).1.gw hgv
  rw [hk] at g3
  have HHT := hid (height_ok h.pl.lay hok g3 o.tw (by omega))
  have hsw := hi.swaps hok.nT ht ho (.inr hpc) hx
  rw [show o.ht - 1 = k by omega] at hsw
  have hop : o.op x = { o with pc := 4 } := by
    unfold PO.op
    rw [if_neg (by omega), if_neg (by omega), if_neg (by omega), if_neg hw, if_pos hgv]
  have hgo : R.go c t o x = { R with s := o.st c R.s x, ops := pup R.ops t (some (o.op x)), steps := pup R.steps t (R.steps t + 1) } := by
    unfold PRun.go
    rw [if_neg (by omega), if_neg (by omega), if_neg hw]
  have dsw : (R.seen t == R.sw k) = false := beq_eq_false_iff_ne.2 fun e => hw (hsw.1.2 e)
  have ST2 := hid hsw.2
  obtain ⟨s', hs'⟩ : ∃ s', s' = o.st c R.s x := ⟨_, rfl⟩
  obtain ⟨o', ho'⟩ : ∃ o', o' = o.op x := ⟨_, rfl⟩
  rw [← hs'] at hstep hgo
  rw [← ho'] at hstep hop
  try rw [← ho'] at hgo
  have hdn : (o'.pc == 0) = false := by rw [hop]; rfl
  rw [hpc, hdn] at hstep
  have HSTEP := hid hstep
  have HE := hid (And.intro e0 e1)
  have HGO := hid hgo
  have q0 := h.cell0.1
  have q14 : w.cell? ⟨rb, 14 + t, none⟩ = some (.int .i64 o.tw) := hofv ▸ h.cell (j := 2) (by decide) ht
  have q8 : w.cell? ⟨rb, 8 + t, none⟩ = some (.pointer (some ⟨tb, 0, none⟩)) := e1 ▸ h.cell (j := 1) (by decide) ht
  have d1 : decide ((k : Int) + 1 < 1) = false := decide_eq_false (by omega)
  have d6 : decide (6 < (k : Int) + 1) = false := decide_eq_false (by omega)
  have wk : IntKind.i64.wrap ((k : Int) + 1 - 1) = (k : Int) := by rw [IntKind.wrap_i64]; omega
  have ek : (k : Int) + 1 - 1 = (k : Int) := by omega
  have t0 : (0 : Int) ≤ (t : Int) := by omega
  have t6 : (t : Int) < 6 := by omega
  have k0 : (0 : Int) ≤ (k : Int) := by omega
  have k6' : (k : Int) < 6 := by omega
  have ws1 : IntKind.i64.wrap (R.steps t + 1) = R.steps t + 1 := by rw [IntKind.wrap_i64]; omega
  clear h hi hx hofv hstep hgo hop hdn hs' ho' e0 e1 hpc hgv ho hst0 g1 g2 g3 hk hsw hw
  go_enter Try.func52, Try.ntmps52
  go_wp2_with fail
  refine HHT.out.mono ?_
  rintro e w9 ⟨rfl, rfl⟩
  simp only [Int.natCast_add, Int.natCast_one]
  go_wp2_with fail
  refine HSTEP.out.mono ?_
  rintro e w2 ⟨rfl, own1, h2⟩
  have q44 : w2.cell? ⟨rb, 44 + t, none⟩ = some (.int .i64 (R.steps t)) := (h2.steps t ht) ▸ h2.cell (j := 7) (by decide) ht
  have z44 : w2.frozen? ⟨rb, 44 + t, none⟩ = false := h2.free _
  have H2 := hid h2
  clear h2 q14 q8 q0
  go_wp2
  go_region
  have H3 := hid ((H2.out.setSteps ht (R.steps t + 1)).quiet ((Keep.refl Nil _).drew))
  obtain ⟨W3, hW3⟩ : ∃ W3, W3 = (w2.setCell ⟨rb, 44 + t, none⟩ (.int .i64 (R.steps t + 1))).drew := ⟨_, rfl⟩
  have H3' := hid (show RunAt w0 W3 c _ rb pb L _ _ from hW3 ▸ H3.out)
  rw [← hW3]
  clear hW3 H3 q44 z44
  have q32 : W3.cell? ⟨rb, 32 + k, none⟩ = some (.int .i64 (R.sw k)) := (H3'.out.sw k k6) ▸ H3'.out.cell (j := 5) (by decide) k6
  have q38 : W3.cell? ⟨rb, 38 + t, none⟩ = some (.int .i64 (R.seen t)) := (H3'.out.seen t ht) ▸ H3'.out.cell (j := 6) (by decide) ht
  have q44 : W3.cell? ⟨rb, 44 + t, none⟩ = some (.int .i64 3) := by
    have := H3'.out.cell (j := 7) (i := t) (by decide) ht
    rw [fset_me, ST2.out] at this
    exact this
  rw [ST2.out] at H3'
  go_wp2
  go_quiet (fail)
  go_wp2
  go_ret
  have H5 := H3'.out.quiet ((Keep.refl Nil W3).drewN nq)
  refine ⟨rfl, ?_⟩
  rw [HGO.out, ST2.out]
  exact ⟨_, _, H5⟩
set_option maxRecDepth 100000 in
set_option maxHeartbeats 4000000 in
theorem rgive_yes (h : RunAt w0 w c R rb pb L own f) (hi : PInv c R) (hok : c.ok) (hl : R.s.log.length < 1000000) (ht : t < 6) (ho : R.ops t = some o) (hgv : o.gv = true) (hpc : o.pc = 8) (hx : R.s.ws[o.at c]? = some x) (hw : x = o.w) (hst0 : -1000000 < R.steps t ∧ R.steps t < 1000000) :
    Calls Try.prog 52 #[.pointer (some ⟨rb, 0, none⟩), .int .i64 (t : Int)] w fun e w' => e = .returned (.bool true) ∧ RunTo w0 c (R.go c t o x) rb pb L w' := by
  obtain ⟨k, hk, k6⟩ := hi.ht_k ht ho
  obtain ⟨tb, e0, e1, hstep⟩ := run_gstep h hi hok hl ht ho hgv hx
  have hofv : f 2 t = .int .i64 o.tw := by
    rw [h.of t ht, (hi.op t o ht ho).2.2.1, hgv]
    simp
  obtain ⟨g1, g2, g3⟩ := (hi.op t o ht ho).1.gw hgv
  rw [hk] at g3
  have HHT := hid (height_ok h.pl.lay hok g3 o.tw (by omega))
  have hsw := hi.swaps hok.nT ht ho (.inr hpc) hx
  rw [show o.ht - 1 = k by omega] at hsw
  have hop : o.op x = { o with pc := 0 } := by
    unfold PO.op
    rw [if_neg (by omega), if_neg (by omega), if_neg (by omega), if_pos hw]
  obtain ⟨r, hr⟩ : ∃ r, R.mine t = o.tw :: r := by
    have h1 := (hi.op t o ht ho).2.2.2.1 hgv
    cases hm : R.mine t with
    | nil => rw [hm] at h1; cases h1
    | cons y r => rw [hm] at h1; simp at h1; exact ⟨r, by rw [h1]⟩
  have hgo : R.go c t o x = { R with s := o.st c R.s x, ops := pup R.ops t none, steps := pup R.steps t (R.steps t + 1), sw := pup R.sw k (R.sw k + 1), L := pup R.L k (o.tw :: R.L k), mine := pup R.mine t r } := by
    unfold PRun.go
    rw [if_neg (by omega), if_neg (by omega), if_pos hw, show o.ht - 1 = k by omega, hr, hgv]
    rfl
  have dsw : (R.seen t == R.sw k) = true := beq_iff_eq.2 (hsw.1.1 hw)
  have ST2 := hid hsw.2
  have hsk := hi.si.sw k k6
  have hsl := hi.swl k k6
  have wsw : IntKind.i64.wrap (R.sw k + 1) = R.sw k + 1 := by rw [IntKind.wrap_i64]; omega
  have HR := hid hr
  have HSL := hid (show (R.L k).reverse.length < 1000000 by
    have h1 := hi.si.len k6
    have := hok.nT
    rw [List.length_reverse]
    omega)
  obtain ⟨s', hs'⟩ : ∃ s', s' = o.st c R.s x := ⟨_, rfl⟩
  obtain ⟨o', ho'⟩ : ∃ o', o' = o.op x := ⟨_, rfl⟩
  rw [← hs'] at hstep hgo
  rw [← ho'] at hstep hop
  try rw [← ho'] at hgo
  have hdn : (o'.pc == 0) = true := by rw [hop]; rfl
  rw [hpc, hdn] at hstep
  have HSTEP := hid hstep
  have HE := hid (And.intro e0 e1)
  have HGO := hid hgo
  have q0 := h.cell0.1
  have q14 : w.cell? ⟨rb, 14 + t, none⟩ = some (.int .i64 o.tw) := hofv ▸ h.cell (j := 2) (by decide) ht
  have q8 : w.cell? ⟨rb, 8 + t, none⟩ = some (.pointer (some ⟨tb, 0, none⟩)) := e1 ▸ h.cell (j := 1) (by decide) ht
  have d1 : decide ((k : Int) + 1 < 1) = false := decide_eq_false (by omega)
  have d6 : decide (6 < (k : Int) + 1) = false := decide_eq_false (by omega)
  have wk : IntKind.i64.wrap ((k : Int) + 1 - 1) = (k : Int) := by rw [IntKind.wrap_i64]; omega
  have ek : (k : Int) + 1 - 1 = (k : Int) := by omega
  have t0 : (0 : Int) ≤ (t : Int) := by omega
  have t6 : (t : Int) < 6 := by omega
  have k0 : (0 : Int) ≤ (k : Int) := by omega
  have k6' : (k : Int) < 6 := by omega
  have ws1 : IntKind.i64.wrap (R.steps t + 1) = R.steps t + 1 := by rw [IntKind.wrap_i64]; omega
  clear h hi hx hofv hstep hgo hop hdn hs' ho' e0 e1 hpc hgv ho hst0 g1 g2 g3 hk hsw hw hr hsk hsl
  go_enter Try.func52, Try.ntmps52
  go_wp2_with fail
  refine HHT.out.mono ?_
  rintro e w9 ⟨rfl, rfl⟩
  simp only [Int.natCast_add, Int.natCast_one]
  go_wp2_with fail
  refine HSTEP.out.mono ?_
  rintro e w2 ⟨rfl, own1, h2⟩
  have q44 : w2.cell? ⟨rb, 44 + t, none⟩ = some (.int .i64 (R.steps t)) := (h2.steps t ht) ▸ h2.cell (j := 7) (by decide) ht
  have z44 : w2.frozen? ⟨rb, 44 + t, none⟩ = false := h2.free _
  have H2 := hid h2
  clear h2 q14 q8 q0
  go_wp2
  go_region
  have H3 := hid ((H2.out.setSteps ht (R.steps t + 1)).quiet ((Keep.refl Nil _).drew))
  obtain ⟨W3, hW3⟩ : ∃ W3, W3 = (w2.setCell ⟨rb, 44 + t, none⟩ (.int .i64 (R.steps t + 1))).drew := ⟨_, rfl⟩
  have H3' := hid (show RunAt w0 W3 c _ rb pb L _ _ from hW3 ▸ H3.out)
  rw [← hW3]
  clear hW3 H3 q44 z44
  have q32 : W3.cell? ⟨rb, 32 + k, none⟩ = some (.int .i64 (R.sw k)) := (H3'.out.sw k k6) ▸ H3'.out.cell (j := 5) (by decide) k6
  have q38 : W3.cell? ⟨rb, 38 + t, none⟩ = some (.int .i64 (R.seen t)) := (H3'.out.seen t ht) ▸ H3'.out.cell (j := 6) (by decide) ht
  have q44 : W3.cell? ⟨rb, 44 + t, none⟩ = some (.int .i64 3) := by
    have := H3'.out.cell (j := 7) (i := t) (by decide) ht
    rw [fset_me, ST2.out] at this
    exact this
  rw [ST2.out] at H3'
  have hst := H3'.out.stk k k6
  obtain ⟨vs, hvs⟩ : ∃ v, v = f 4 k := ⟨_, rfl⟩
  have HS := hid (show RwAt W3 own1 (20 + k) vs (R.L k).reverse from hvs ▸ hst)
  have HVS := hid hvs
  have q26 : W3.cell? ⟨rb, 26 + k, none⟩ = some vs := hvs ▸ H3'.out.cell (j := 4) (by decide) k6
  clear hst hvs
  go_wp2
  go_quiet (fail)
  obtain ⟨W4, hW4⟩ : ∃ W4, W4 = W3.drewN nq := ⟨_, rfl⟩
  rw [← hW4]
  have k4 : Keep Nil W3 W4 := hW4 ▸ (Keep.refl Nil W3).drewN nq
  have H4 := hid (H3'.out.quiet k4)
  have q26' := k4.cell q26 (fun h => h)
  have HS4 := hid (show RwAt W4 own1 (20 + k) vs (R.L k).reverse from ⟨HS.out.1.keep k4 (fun _ _ h => h), HS.out.2⟩)
  have hz5 : rb < W4.heap.size := lt_of_block H4.out.head
  have HNR := hid (show vs.ownBlock ≠ some rb from fun e => by have := HS4.out.2 rb e; rw [H4.out.orb] at this; simp at this; omega)
  clear hW4 k4 q26 q32 q38 q44 H3' HS
  go_wp2
  go_region_law (refine step_oapp _ rfl (.tmp 115) (.tmp 117) 48 rfl 3 Try.underlying48 infoInt vs (R.L k).reverse (by simp [Act.eval]) (HS4.out.1.keep (((Keep.refl Nil W4).alloc _).drew) (fun _ _ h => h)) o.tw _ (by simp [Act.eval]) (rd_new _ _ _ _ _ _) HSL.out ?_; intro a2 c2 w6 ho2 ho1 hgr hst2; have hb1 : w6.heap[rb]? = W4.heap[rb]? := (hgr.block rb (by simp; omega) (fun e => HNR.out e.symm)).trans (Below.heap_alloc W4.drew _ rb hz5); have hb2 := hb1.trans H4.out.head; have c26 : w6.cell? ⟨rb, 26 + k, none⟩ = some vs := (by rw [World.cell?_of_block (a := ⟨rb, 26 + k, none⟩) hb1]; exact q26'); have z26 : w6.frozen? ⟨rb, 26 + k, none⟩ = false := free_of hb2 _; have K6 := hid ((((Keep.refl (fun q => vs.ownBlock = some q) W4).alloc _).drew).grown hgr (fun q e => .inl e)); have HO2 := hid ho2; have HO1 := hid ho1; have HS2 := hid hst2; clear hgr hb1 hb2 ho2 ho1 hst2)
  all_goals
    obtain ⟨own2, h6, hrw⟩ := H4.out.grow (tag := 20 + k) (by omega) (by omega) (fun u hu => by omega) HS4.out.2 K6.out HO2.out (fun q e => (HS2.out q e).imp id (fun e => by simp at e; omega)) (fun u hu e => by omega) (fun u hu e => by
      obtain rfl : u = k := by omega
      rw [fset_row (by decide), ← HVS.out]
      exact HO1.out)
    rw [← List.reverse_cons, List.length_reverse] at hrw
    have H7 := hid (h6.setStk k6 _ (o.tw :: R.L k) hrw)
    obtain ⟨W7, hW7⟩ : ∃ W7, W7 = w6.setCell ⟨rb, 26 + k, none⟩ (.slice a2 ((R.L k).length + 1) c2) := ⟨_, rfl⟩
    have H7' := hid (show RunAt w0 W7 c _ rb pb L _ _ from hW7 ▸ H7.out)
    rw [← hW7]
    clear hW7 H7 c26 z26 h6 hrw q26'
    obtain ⟨vm, hvm⟩ : ∃ v, v = f 3 t := ⟨_, rfl⟩
    have hmr := H7'.out.mine t ht
    have hm1 : ORow W7 3 vm (o.tw :: r) := by
      rw [← HR.out]
      have := hmr.1
      rw [fset_row (by decide), fset_row (by decide), ← hvm] at this
      exact this
    have hm2 : ∀ q, vm.ownBlock = some q → own2 q = some (14 + t) := by
      have := hmr.2
      rw [fset_row (by decide), fset_row (by decide), ← hvm] at this
      exact this
    have q20 : W7.cell? ⟨rb, 20 + t, none⟩ = some vm := hvm ▸ H7'.out.cell (j := 3) (by decide) ht
    obtain ⟨g, off, cp, rfl, hc1, hc2, hc3, hrest⟩ := hm1.rest
    have z20 : W7.frozen? ⟨rb, 20 + t, none⟩ = false := H7'.out.free _
    obtain ⟨n, hn⟩ : ∃ n, n = r.length := ⟨_, rfl⟩
    rw [← hn] at q20 hrest hc1
    have n1 : (1 : Int) ≤ (n : Int) + 1 := by omega
    have HM2 := hid hm2
    have HN := hid hn
    clear hmr hm1 hm2 hc2 hc3 hn hvm
    rcases hrest with ⟨hcp, hrow⟩ | ⟨hcp, hrow⟩
    · subst hcp
      have HROW := hid hrow
      clear hrow hc1
      go_wp2
      go_region
      have H8 := hid ((H7'.out.setMine ht (.slice (some ⟨g, off, none⟩) n 0) r ⟨HN.out ▸ HROW.out, fun q e => by cases e; exact HM2.out g rfl⟩).quiet ((Keep.refl Nil _).drew))
      obtain ⟨W8, hW8⟩ : ∃ W8, W8 = (W7.setCell ⟨rb, 20 + t, none⟩ (.slice (some ⟨g, off, none⟩) n 0)).drew := ⟨_, rfl⟩
      have H8' := hid (show RunAt w0 W8 c _ rb pb L _ _ from hW8 ▸ H8.out)
      rw [← hW8]
      clear hW8 H8 q20 z20
      have q8 : W8.cell? ⟨rb, 8 + t, none⟩ = some (.pointer (some ⟨tb, 0, none⟩)) := HE.out.2 ▸ H8'.out.cell (j := 1) (by decide) ht
      have z8 : W8.frozen? ⟨rb, 8 + t, none⟩ = false := H8'.out.free _
      go_wp2
      have H9 := hid (H8'.out.drop1 ht HE.out.1)
      obtain ⟨W9, hW9⟩ : ∃ W9, W9 = W8.setCell ⟨rb, 8 + t, none⟩ (.pointer none) := ⟨_, rfl⟩
      have H9' := hid (show RunAt w0 W9 c _ rb pb L _ _ from hW9 ▸ H9.out)
      rw [← hW9]
      clear hW9 H9 q8 z8
      have q32 : W9.cell? ⟨rb, 32 + k, none⟩ = some (.int .i64 (R.sw k)) := (H9'.out.sw k k6) ▸ H9'.out.cell (j := 5) (by decide) k6
      have z32 : W9.frozen? ⟨rb, 32 + k, none⟩ = false := H9'.out.free _
      go_region
      have H10 := (H9'.out.setSw k6 (R.sw k + 1)).quiet ((Keep.refl Nil _).drew)
      go_wp2
      go_ret
      refine ⟨rfl, ?_⟩
      rw [HGO.out, ST2.out]
      rw [pup_pup] at H10
      exact ⟨_, _, H10⟩
    · have HROW := hid hrow
      clear hrow hc1
      go_wp2
      go_region
      have H8 := hid ((H7'.out.setMine ht (.slice (some ⟨g, off + 1, none⟩) n (cp - 1)) r ⟨HN.out ▸ HROW.out, fun q e => by cases e; exact HM2.out g rfl⟩).quiet ((Keep.refl Nil _).drew))
      obtain ⟨W8, hW8⟩ : ∃ W8, W8 = (W7.setCell ⟨rb, 20 + t, none⟩ (.slice (some ⟨g, off + 1, none⟩) n (cp - 1))).drew := ⟨_, rfl⟩
      have H8' := hid (show RunAt w0 W8 c _ rb pb L _ _ from hW8 ▸ H8.out)
      rw [← hW8]
      clear hW8 H8 q20 z20
      have q8 : W8.cell? ⟨rb, 8 + t, none⟩ = some (.pointer (some ⟨tb, 0, none⟩)) := HE.out.2 ▸ H8'.out.cell (j := 1) (by decide) ht
      have z8 : W8.frozen? ⟨rb, 8 + t, none⟩ = false := H8'.out.free _
      go_wp2
      have H9 := hid (H8'.out.drop1 ht HE.out.1)
      obtain ⟨W9, hW9⟩ : ∃ W9, W9 = W8.setCell ⟨rb, 8 + t, none⟩ (.pointer none) := ⟨_, rfl⟩
      have H9' := hid (show RunAt w0 W9 c _ rb pb L _ _ from hW9 ▸ H9.out)
      rw [← hW9]
      clear hW9 H9 q8 z8
      have q32 : W9.cell? ⟨rb, 32 + k, none⟩ = some (.int .i64 (R.sw k)) := (H9'.out.sw k k6) ▸ H9'.out.cell (j := 5) (by decide) k6
      have z32 : W9.frozen? ⟨rb, 32 + k, none⟩ = false := H9'.out.free _
      go_region
      have H10 := (H9'.out.setSw k6 (R.sw k + 1)).quiet ((Keep.refl Nil _).drew)
      go_wp2
      go_ret
      refine ⟨rfl, ?_⟩
      rw [HGO.out, ST2.out]
      rw [pup_pup] at H10
      exact ⟨_, _, H10⟩
end
end Go.Proofs.Ytjghenomeindcaa
