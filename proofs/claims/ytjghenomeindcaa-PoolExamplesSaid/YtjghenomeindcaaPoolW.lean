/- law14: Run.take. -/
import Derived.Test.YtjghenomeindcaaPoolV
import Derived.Deep.DeepCutAuto
set_option linter.unusedVariables false
set_option linter.unusedSimpArgs false
namespace Go.Lf
open Go.RowKit
theorem PInv.ht_k {c : Cfg} {R : PRun} {t : Nat} {o : PO} (hi : PInv c R) (ht : t < 6) (ho : R.ops t = some o) : ∃ k, o.ht = k + 1 ∧ k < 6 := by
  obtain ⟨h1, -⟩ := hi.op t o ht ho
  exact ⟨o.ht - 1, by have := h1.ht1; omega, by have := h1.ht1; have := h1.ht6; omega⟩
theorem PInv.stp {c : Cfg} {R : PRun} {t : Nat} {o : PO} (hi : PInv c R) (ht : t < 6) (ho : R.ops t = some o) : (o.pc = 5 ∨ o.pc = 7 → R.steps t = 1) ∧ (o.pc = 6 ∨ o.pc = 8 → R.steps t = 2) := by
  obtain ⟨h1, -⟩ := hi.op t o ht ho
  exact ⟨h1.s1, h1.s2⟩
theorem idx_facts {n cp : Nat} (h1 : n + 1 ≤ cp) (h2 : n < 100000) : IntKind.i64.wrap ((n : Int) + 1 - 1) = (n : Int) ∧ (n : Int) + 1 - 1 = (n : Int) ∧ wrap64 (n : Int) = (n : Int) ∧ (0 : Int) ≤ (n : Int) ∧ (n : Int) ≤ (cp : Int) ∧ (n : Int) < (n : Int) + 1 ∧ ((n : Int) + 1 == 0) = false := by
  refine ⟨by rw [IntKind.wrap_i64]; omega, by omega, by unfold wrap64; omega, by omega, by omega, by omega, beq_eq_false_iff_ne.2 (by omega)⟩
end Go.Lf
namespace Go.Proofs.Ytjghenomeindcaa
open Go.RowKit Go.Lf
/-- The run behind a call. -/
def RunTo (w0 : Frm) (c : Cfg) (R' : PRun) (rb pb L : Nat) (w' : World) : Prop := ∃ own' f', RunAt w0 w' c R' rb pb L own' f'
section
variable {w0 : Frm} {w w' : World} {c : Cfg} {R : PRun} {rb pb L t : Nat} {own own' : Nat → Option Nat} {f : Nat → Nat → Value} {S : Nat → Prop} {o : PO} {v : Value} {zs : List Int} {tag : Nat} {s : PSt} {x : Int}
set_option maxRecDepth 100000 in
set_option maxHeartbeats 4000000 in
theorem rtake_empty (h : RunAt w0 w c R rb pb L own f) (hi : PInv c R) (hok : c.ok) (hl : R.s.log.length < 1000000) (ht : t < 6) (ho : R.ops t = some o) (hgv : o.gv = false) (hpc : o.pc = 4) (hx : R.s.ws[o.at c]? = some x) (hL : R.L (o.ht - 1) = []) (hst0 : -1000000 < R.steps t ∧ R.steps t < 1000000) :
    Calls Try.prog 51 #[.pointer (some ⟨rb, 0, none⟩), .int .i64 (t : Int)] w fun e w' => e = .returned (.bool true) ∧ RunTo w0 c (R.go c t o x) rb pb L w' := by
  obtain ⟨k, hk, k6⟩ := hi.ht_k ht ho
  obtain ⟨tb, e0, e1, hstep⟩ := run_tstep h hi hok hl ht ho hgv hx
  have hofv : f 2 t = .int .i64 ((k : Int) + 1) := by
    rw [h.of t ht, (hi.op t o ht ho).2.2.1, hgv, hk]
    simp
  have hat : o.at c = c.pools + k := by unfold PO.at; rw [if_neg (by omega)]; omega
  rw [show o.ht - 1 = k by omega] at hL
  have hxk := hx
  rw [hat] at hxk
  have hz : x % 65536 = 0 := by
    have := (hi.si.at_head hok.nT k6 hxk).1
    rw [hL] at this
    exact this
  have hop : o.op x = { o with w := x, tw := 0, pc := 0, e := 6 } := by unfold PO.op; rw [if_pos hpc, if_neg (by rw [hgv]; decide), if_pos hz]
  have hgo : R.go c t o x = { R with s := o.st c R.s x, ops := pup R.ops t none, seen := pup R.seen t (R.sw k), steps := pup R.steps t 1 } := by
    unfold PRun.go
    rw [if_pos hpc, hop, if_pos (show ((0 : Int) = 0) from rfl), show o.ht - 1 = k by omega]
  obtain ⟨s', hs'⟩ : ∃ s', s' = o.st c R.s x := ⟨_, rfl⟩
  obtain ⟨o', ho'⟩ : ∃ o', o' = o.op x := ⟨_, rfl⟩
  rw [← hs'] at hstep hgo
  rw [← ho'] at hstep hop
  try rw [← ho'] at hgo
  have hres : PO.res o' = (0, o.fl, 6) := by rw [hop]; rfl
  have hdn : (o'.pc == 0) = true := by rw [hop]; rfl
  rw [hpc, hdn] at hstep
  have HSTEP := hid hstep
  have HE := hid (And.intro e0 e1)
  have HGO := hid hgo
  have HRES := hid hres
  have q14 : w.cell? ⟨rb, 14 + t, none⟩ = some (.int .i64 ((k : Int) + 1)) := hofv ▸ h.cell (j := 2) (by decide) ht
  have q2 : w.cell? ⟨rb, 2 + t, none⟩ = some (.pointer (some ⟨tb, 0, none⟩)) := e0 ▸ h.cell (j := 0) (by decide) ht
  have wk : IntKind.i64.wrap ((k : Int) + 1 - 1) = (k : Int) := by rw [IntKind.wrap_i64]; omega
  have ek : (k : Int) + 1 - 1 = (k : Int) := by omega
  have t0 : (0 : Int) ≤ (t : Int) := by omega
  have t6 : (t : Int) < 6 := by omega
  have k0 : (0 : Int) ≤ (k : Int) := by omega
  have k6' : (k : Int) < 6 := by omega
  have ws1 : IntKind.i64.wrap (R.steps t + 1) = R.steps t + 1 := by rw [IntKind.wrap_i64]; omega
  have HST := hid hst0
  have HLE := hid hL
  clear h hi hx hofv hstep hgo hres hop hdn hs' ho' e0 e1 hpc hgv ho hst0 hL hat hxk hz hk
  go_enter Try.func51, Try.ntmps51
  go_wp2_with fail
  refine HSTEP.out.mono ?_
  rintro e w1 ⟨rfl, own1, h1⟩
  have q2' : w1.cell? ⟨rb, 2 + t, none⟩ = some (.pointer (some ⟨tb, 0, none⟩)) := HE.out.1 ▸ h1.cell (j := 0) (by decide) ht
  have H1 := hid h1
  clear h1 q14 q2
  go_wp2_with fail
  refine (run_res H1.out ht HE.out.1 (pup_me (f := R.ops) (k := t) (v := some o')) 0 o.fl 6 HRES.out).mono ?_
  rintro e w2 ⟨rfl, h2⟩
  have q44 : w2.cell? ⟨rb, 44 + t, none⟩ = some (.int .i64 (R.steps t)) := (h2.steps t ht) ▸ h2.cell (j := 7) (by decide) ht
  have z44 : w2.frozen? ⟨rb, 44 + t, none⟩ = false := h2.free _
  have H2 := hid h2
  clear h2 q2'
  go_wp2
  go_region
  have H3 := hid ((H2.out.setSteps ht (R.steps t + 1)).quiet ((Keep.refl Nil _).drew))
  obtain ⟨W3, hW3⟩ : ∃ W3, W3 = (w2.setCell ⟨rb, 44 + t, none⟩ (.int .i64 (R.steps t + 1))).drew := ⟨_, rfl⟩
  have H3' := hid (show RunAt w0 W3 c _ rb pb L _ _ from hW3 ▸ H3.out)
  rw [← hW3]
  clear hW3 H3 q44 z44
  have q32 : W3.cell? ⟨rb, 32 + k, none⟩ = some (.int .i64 (R.sw k)) := (H3'.out.sw k k6) ▸ H3'.out.cell (j := 5) (by decide) k6
  have q38 : W3.cell? ⟨rb, 38 + t, none⟩ = some (.int .i64 (R.seen t)) := (H3'.out.seen t ht) ▸ H3'.out.cell (j := 6) (by decide) ht
  have q44 : W3.cell? ⟨rb, 44 + t, none⟩ = some (.int .i64 (R.steps t + 1)) := by
    have := H3'.out.cell (j := 7) (i := t) (by decide) ht
    rw [fset_me] at this
    exact this
  have z38 : W3.frozen? ⟨rb, 38 + t, none⟩ = false := H3'.out.free _
  have z44 : W3.frozen? ⟨rb, 44 + t, none⟩ = false := H3'.out.free _
  go_wp2
  go_region
  have H4 := hid (((H3'.out.setSeen ht (R.sw k)).setSteps ht 1).quiet ((Keep.refl Nil _).drew))
  obtain ⟨W4, hW4⟩ : ∃ W4, W4 = ((W3.setCell ⟨rb, 38 + t, none⟩ (.int .i64 (R.sw k))).setCell ⟨rb, 44 + t, none⟩ (.int .i64 1)).drew := ⟨_, rfl⟩
  have H4' := hid (show RunAt w0 W4 c _ rb pb L _ _ from hW4 ▸ H4.out)
  rw [← hW4]
  clear hW4 H4 q32 q38 q44 z38 z44 H3'
  obtain ⟨sa, sc, hsv⟩ := (H4'.out.stk k k6).1.shape
  have q26 : W4.cell? ⟨rb, 26 + k, none⟩ = some (.slice sa (R.L k).reverse.length sc) := by
    have := H4'.out.cell (j := 4) (i := k) (by decide) k6
    rw [hsv] at this
    exact this
  rw [HLE.out] at q26
  simp only [List.reverse_nil, List.length_nil] at q26
  clear hsv
  have q2 : W4.cell? ⟨rb, 2 + t, none⟩ = some (.pointer (some ⟨tb, 0, none⟩)) := HE.out.1 ▸ H4'.out.cell (j := 0) (by decide) ht
  have z2 : W4.frozen? ⟨rb, 2 + t, none⟩ = false := H4'.out.free _
  go_wp2
  go_ret
  have H5 := H4'.out.drop0 ht HE.out.2
  refine ⟨rfl, ?_⟩
  rw [HGO.out]
  rw [pup_pup, pup_pup] at H5
  exact ⟨_, _, H5⟩
set_option maxRecDepth 100000 in
set_option maxHeartbeats 4000000 in
theorem rtake_some (h : RunAt w0 w c R rb pb L own f) (hi : PInv c R) (hok : c.ok) (hl : R.s.log.length < 1000000) (ht : t < 6) (ho : R.ops t = some o) (hgv : o.gv = false) (hpc : o.pc = 4) (hx : R.s.ws[o.at c]? = some x) (y : Int) (r : List Int) (hL : R.L (o.ht - 1) = y :: r) (hst0 : -1000000 < R.steps t ∧ R.steps t < 1000000) :
    Calls Try.prog 51 #[.pointer (some ⟨rb, 0, none⟩), .int .i64 (t : Int)] w fun e w' => e = .returned (.bool true) ∧ RunTo w0 c (R.go c t o x) rb pb L w' := by
  obtain ⟨k, hk, k6⟩ := hi.ht_k ht ho
  obtain ⟨tb, e0, e1, hstep⟩ := run_tstep h hi hok hl ht ho hgv hx
  have hofv : f 2 t = .int .i64 ((k : Int) + 1) := by
    rw [h.of t ht, (hi.op t o ht ho).2.2.1, hgv, hk]
    simp
  have hat : o.at c = c.pools + k := by unfold PO.at; rw [if_neg (by omega)]; omega
  rw [show o.ht - 1 = k by omega] at hL
  have hxk := hx
  rw [hat] at hxk
  have hz : x % 65536 ≠ 0 := by
    have h1 := (hi.si.at_head hok.nT k6 hxk).1
    have h2 := (hi.si.rng k k6 y (by rw [hL]; exact List.mem_cons_self)).1
    rw [hL] at h1
    simp only [hd0, List.head?_cons, Option.getD_some] at h1
    omega
  have hop : o.op x = { o with w := x, tw := x % 65536, pc := 5 } := by unfold PO.op; rw [if_pos hpc, if_neg (by rw [hgv]; decide), if_neg hz]
  have hgo : R.go c t o x = { R with s := o.st c R.s x, ops := pup R.ops t (some (o.op x)), seen := pup R.seen t (R.sw k), steps := pup R.steps t 1 } := by
    unfold PRun.go
    rw [if_pos hpc, hop, if_neg (show ¬ ((5 : Int) = 0) by decide), show o.ht - 1 = k by omega]
  obtain ⟨s', hs'⟩ : ∃ s', s' = o.st c R.s x := ⟨_, rfl⟩
  obtain ⟨o', ho'⟩ : ∃ o', o' = o.op x := ⟨_, rfl⟩
  rw [← hs'] at hstep hgo
  rw [← ho'] at hstep hop
  try rw [← ho'] at hgo
  have hres : PO.res o' = (0, 0, 8) := by rw [hop]; rfl
  have hdn : (o'.pc == 0) = false := by rw [hop]; rfl
  rw [hpc, hdn] at hstep
  have HSTEP := hid hstep
  have HE := hid (And.intro e0 e1)
  have HGO := hid hgo
  have HRES := hid hres
  have q14 : w.cell? ⟨rb, 14 + t, none⟩ = some (.int .i64 ((k : Int) + 1)) := hofv ▸ h.cell (j := 2) (by decide) ht
  have q2 : w.cell? ⟨rb, 2 + t, none⟩ = some (.pointer (some ⟨tb, 0, none⟩)) := e0 ▸ h.cell (j := 0) (by decide) ht
  have wk : IntKind.i64.wrap ((k : Int) + 1 - 1) = (k : Int) := by rw [IntKind.wrap_i64]; omega
  have ek : (k : Int) + 1 - 1 = (k : Int) := by omega
  have t0 : (0 : Int) ≤ (t : Int) := by omega
  have t6 : (t : Int) < 6 := by omega
  have k0 : (0 : Int) ≤ (k : Int) := by omega
  have k6' : (k : Int) < 6 := by omega
  have ws1 : IntKind.i64.wrap (R.steps t + 1) = R.steps t + 1 := by rw [IntKind.wrap_i64]; omega
  have HST := hid hst0
  have HLE := hid hL
  clear h hi hx hofv hstep hgo hres hop hdn hs' ho' e0 e1 hpc hgv ho hst0 hL hat hxk hz hk
  go_enter Try.func51, Try.ntmps51
  go_wp2_with fail
  refine HSTEP.out.mono ?_
  rintro e w1 ⟨rfl, own1, h1⟩
  have q2' : w1.cell? ⟨rb, 2 + t, none⟩ = some (.pointer (some ⟨tb, 0, none⟩)) := HE.out.1 ▸ h1.cell (j := 0) (by decide) ht
  have H1 := hid h1
  clear h1 q14 q2
  go_wp2_with fail
  refine (run_res H1.out ht HE.out.1 (pup_me (f := R.ops) (k := t) (v := some o')) 0 0 8 HRES.out).mono ?_
  rintro e w2 ⟨rfl, h2⟩
  have q44 : w2.cell? ⟨rb, 44 + t, none⟩ = some (.int .i64 (R.steps t)) := (h2.steps t ht) ▸ h2.cell (j := 7) (by decide) ht
  have z44 : w2.frozen? ⟨rb, 44 + t, none⟩ = false := h2.free _
  have H2 := hid h2
  clear h2 q2'
  go_wp2
  go_region
  have H3 := hid ((H2.out.setSteps ht (R.steps t + 1)).quiet ((Keep.refl Nil _).drew))
  obtain ⟨W3, hW3⟩ : ∃ W3, W3 = (w2.setCell ⟨rb, 44 + t, none⟩ (.int .i64 (R.steps t + 1))).drew := ⟨_, rfl⟩
  have H3' := hid (show RunAt w0 W3 c _ rb pb L _ _ from hW3 ▸ H3.out)
  rw [← hW3]
  clear hW3 H3 q44 z44
  have q32 : W3.cell? ⟨rb, 32 + k, none⟩ = some (.int .i64 (R.sw k)) := (H3'.out.sw k k6) ▸ H3'.out.cell (j := 5) (by decide) k6
  have q38 : W3.cell? ⟨rb, 38 + t, none⟩ = some (.int .i64 (R.seen t)) := (H3'.out.seen t ht) ▸ H3'.out.cell (j := 6) (by decide) ht
  have q44 : W3.cell? ⟨rb, 44 + t, none⟩ = some (.int .i64 (R.steps t + 1)) := by
    have := H3'.out.cell (j := 7) (i := t) (by decide) ht
    rw [fset_me] at this
    exact this
  have z38 : W3.frozen? ⟨rb, 38 + t, none⟩ = false := H3'.out.free _
  have z44 : W3.frozen? ⟨rb, 44 + t, none⟩ = false := H3'.out.free _
  go_wp2
  go_region
  have H4 := hid (((H3'.out.setSeen ht (R.sw k)).setSteps ht 1).quiet ((Keep.refl Nil _).drew))
  obtain ⟨W4, hW4⟩ : ∃ W4, W4 = ((W3.setCell ⟨rb, 38 + t, none⟩ (.int .i64 (R.sw k))).setCell ⟨rb, 44 + t, none⟩ (.int .i64 1)).drew := ⟨_, rfl⟩
  have H4' := hid (show RunAt w0 W4 c _ rb pb L _ _ from hW4 ▸ H4.out)
  rw [← hW4]
  clear hW4 H4 q32 q38 q44 z38 z44 H3'
  obtain ⟨sa, sc, hsv⟩ := (H4'.out.stk k k6).1.shape
  have q26 : W4.cell? ⟨rb, 26 + k, none⟩ = some (.slice sa (R.L k).reverse.length sc) := by
    have := H4'.out.cell (j := 4) (i := k) (by decide) k6
    rw [hsv] at this
    exact this
  rw [HLE.out] at q26
  have dl : (((y :: r).reverse.length : Int) == 0) = false := beq_eq_false_iff_ne.2 (by simp; omega)
  clear hsv
  go_wp2
  go_ret
  have H5 := H4'.out
  refine ⟨rfl, ?_⟩
  rw [HGO.out]
  rw [pup_pup] at H5
  exact ⟨_, _, H5⟩
set_option maxRecDepth 100000 in
set_option maxHeartbeats 4000000 in
theorem rtake_under (h : RunAt w0 w c R rb pb L own f) (hi : PInv c R) (hok : c.ok) (hl : R.s.log.length < 1000000) (ht : t < 6) (ho : R.ops t = some o) (hgv : o.gv = false) (hpc : o.pc = 5) (hx : R.s.ws[o.at c]? = some x)  (hst0 : -1000000 < R.steps t ∧ R.steps t < 1000000) :
    Calls Try.prog 51 #[.pointer (some ⟨rb, 0, none⟩), .int .i64 (t : Int)] w fun e w' => e = .returned (.bool true) ∧ RunTo w0 c (R.go c t o x) rb pb L w' := by
  obtain ⟨k, hk, k6⟩ := hi.ht_k ht ho
  obtain ⟨tb, e0, e1, hstep⟩ := run_tstep h hi hok hl ht ho hgv hx
  have hofv : f 2 t = .int .i64 ((k : Int) + 1) := by
    rw [h.of t ht, (hi.op t o ht ho).2.2.1, hgv, hk]
    simp
  have hop : o.op x = { o with bl := x, pc := 6 } := by unfold PO.op; rw [if_neg (by omega), if_pos hpc]
  have hgo : R.go c t o x = { R with s := o.st c R.s x, ops := pup R.ops t (some (o.op x)), steps := pup R.steps t (R.steps t + 1) } := by
    unfold PRun.go
    rw [if_neg (by omega), if_pos (.inl hpc)]
  obtain ⟨s', hs'⟩ : ∃ s', s' = o.st c R.s x := ⟨_, rfl⟩
  obtain ⟨o', ho'⟩ : ∃ o', o' = o.op x := ⟨_, rfl⟩
  rw [← hs'] at hstep hgo
  rw [← ho'] at hstep hop
  try rw [← ho'] at hgo
  have hres : PO.res o' = (0, 0, 8) := by rw [hop]; rfl
  have hdn : (o'.pc == 0) = false := by rw [hop]; rfl
  rw [hpc, hdn] at hstep
  have HSTEP := hid hstep
  have HE := hid (And.intro e0 e1)
  have HGO := hid hgo
  have HRES := hid hres
  have q14 : w.cell? ⟨rb, 14 + t, none⟩ = some (.int .i64 ((k : Int) + 1)) := hofv ▸ h.cell (j := 2) (by decide) ht
  have q2 : w.cell? ⟨rb, 2 + t, none⟩ = some (.pointer (some ⟨tb, 0, none⟩)) := e0 ▸ h.cell (j := 0) (by decide) ht
  have wk : IntKind.i64.wrap ((k : Int) + 1 - 1) = (k : Int) := by rw [IntKind.wrap_i64]; omega
  have ek : (k : Int) + 1 - 1 = (k : Int) := by omega
  have t0 : (0 : Int) ≤ (t : Int) := by omega
  have t6 : (t : Int) < 6 := by omega
  have k0 : (0 : Int) ≤ (k : Int) := by omega
  have k6' : (k : Int) < 6 := by omega
  have ws1 : IntKind.i64.wrap (R.steps t + 1) = R.steps t + 1 := by rw [IntKind.wrap_i64]; omega
  have HST := hid hst0
  clear h hi hx hofv hstep hgo hres hop hdn hs' ho' e0 e1 hpc hgv ho hst0 hk
  go_enter Try.func51, Try.ntmps51
  go_wp2_with fail
  refine HSTEP.out.mono ?_
  rintro e w1 ⟨rfl, own1, h1⟩
  have q2' : w1.cell? ⟨rb, 2 + t, none⟩ = some (.pointer (some ⟨tb, 0, none⟩)) := HE.out.1 ▸ h1.cell (j := 0) (by decide) ht
  have H1 := hid h1
  clear h1 q14 q2
  go_wp2_with fail
  refine (run_res H1.out ht HE.out.1 (pup_me (f := R.ops) (k := t) (v := some o')) 0 0 8 HRES.out).mono ?_
  rintro e w2 ⟨rfl, h2⟩
  have q44 : w2.cell? ⟨rb, 44 + t, none⟩ = some (.int .i64 (R.steps t)) := (h2.steps t ht) ▸ h2.cell (j := 7) (by decide) ht
  have z44 : w2.frozen? ⟨rb, 44 + t, none⟩ = false := h2.free _
  have H2 := hid h2
  clear h2 q2'
  go_wp2
  go_region
  have H3 := hid ((H2.out.setSteps ht (R.steps t + 1)).quiet ((Keep.refl Nil _).drew))
  obtain ⟨W3, hW3⟩ : ∃ W3, W3 = (w2.setCell ⟨rb, 44 + t, none⟩ (.int .i64 (R.steps t + 1))).drew := ⟨_, rfl⟩
  have H3' := hid (show RunAt w0 W3 c _ rb pb L _ _ from hW3 ▸ H3.out)
  rw [← hW3]
  clear hW3 H3 q44 z44
  go_wp2
  go_ret
  have H5 := H3'.out
  refine ⟨rfl, ?_⟩
  rw [HGO.out]
  exact ⟨_, _, H5⟩
set_option maxRecDepth 100000 in
set_option maxHeartbeats 4000000 in
theorem rtake_no (h : RunAt w0 w c R rb pb L own f) (hi : PInv c R) (hok : c.ok) (hl : R.s.log.length < 1000000) (ht : t < 6) (ho : R.ops t = some o) (hgv : o.gv = false) (hpc : o.pc = 6) (hx : R.s.ws[o.at c]? = some x) (hw : x ≠ o.w) (hst0 : -1000000 < R.steps t ∧ R.steps t < 1000000) :
    Calls Try.prog 51 #[.pointer (some ⟨rb, 0, none⟩), .int .i64 (t : Int)] w fun e w' => e = .returned (.bool true) ∧ RunTo w0 c (R.go c t o x) rb pb L w' := by
  obtain ⟨k, hk, k6⟩ := hi.ht_k ht ho
  obtain ⟨tb, e0, e1, hstep⟩ := run_tstep h hi hok hl ht ho hgv hx
  have hofv : f 2 t = .int .i64 ((k : Int) + 1) := by
    rw [h.of t ht, (hi.op t o ht ho).2.2.1, hgv, hk]
    simp
  have hsw := hi.swaps hok.nT ht ho (.inl hpc) hx
  rw [show o.ht - 1 = k by omega] at hsw
  have hop : o.op x = { o with tw := 0, fl := o.fl + 1, pc := 4 } := by
    unfold PO.op
    rw [if_neg (by omega), if_neg (by omega), if_neg (by omega), if_neg hw, if_neg (by rw [hgv]; decide), if_neg (by have := (hi.op t o ht ho).1.fl; have := (hi.op t o ht ho).1.tr; omega)]
  have hgo : R.go c t o x = { R with s := o.st c R.s x, ops := pup R.ops t (some (o.op x)), steps := pup R.steps t (R.steps t + 1) } := by
    unfold PRun.go
    rw [if_neg (by omega), if_neg (by omega), if_neg hw]
  have dsw : (R.seen t == R.sw k) = false := beq_eq_false_iff_ne.2 fun e => hw (hsw.1.2 e)
  have ST2 := hid hsw.2
  obtain ⟨s', hs'⟩ : ∃ s', s' = o.st c R.s x := ⟨_, rfl⟩
  obtain ⟨o', ho'⟩ : ∃ o', o' = o.op x := ⟨_, rfl⟩
  rw [← hs'] at hstep hgo
  rw [← ho'] at hstep hop
  try rw [← ho'] at hgo
  have hres : PO.res o' = (0, 0, 8) := by rw [hop]; rfl
  have hdn : (o'.pc == 0) = false := by rw [hop]; rfl
  rw [hpc, hdn] at hstep
  have HSTEP := hid hstep
  have HE := hid (And.intro e0 e1)
  have HGO := hid hgo
  have HRES := hid hres
  have q14 : w.cell? ⟨rb, 14 + t, none⟩ = some (.int .i64 ((k : Int) + 1)) := hofv ▸ h.cell (j := 2) (by decide) ht
  have q2 : w.cell? ⟨rb, 2 + t, none⟩ = some (.pointer (some ⟨tb, 0, none⟩)) := e0 ▸ h.cell (j := 0) (by decide) ht
  have wk : IntKind.i64.wrap ((k : Int) + 1 - 1) = (k : Int) := by rw [IntKind.wrap_i64]; omega
  have ek : (k : Int) + 1 - 1 = (k : Int) := by omega
  have t0 : (0 : Int) ≤ (t : Int) := by omega
  have t6 : (t : Int) < 6 := by omega
  have k0 : (0 : Int) ≤ (k : Int) := by omega
  have k6' : (k : Int) < 6 := by omega
  have ws1 : IntKind.i64.wrap (R.steps t + 1) = R.steps t + 1 := by rw [IntKind.wrap_i64]; omega
  have HST := hid hst0
  clear h hi hx hofv hstep hgo hres hop hdn hs' ho' e0 e1 hpc hgv ho hst0 hk hsw hw
  go_enter Try.func51, Try.ntmps51
  go_wp2_with fail
  refine HSTEP.out.mono ?_
  rintro e w1 ⟨rfl, own1, h1⟩
  have q2' : w1.cell? ⟨rb, 2 + t, none⟩ = some (.pointer (some ⟨tb, 0, none⟩)) := HE.out.1 ▸ h1.cell (j := 0) (by decide) ht
  have H1 := hid h1
  clear h1 q14 q2
  go_wp2_with fail
  refine (run_res H1.out ht HE.out.1 (pup_me (f := R.ops) (k := t) (v := some o')) 0 0 8 HRES.out).mono ?_
  rintro e w2 ⟨rfl, h2⟩
  have q44 : w2.cell? ⟨rb, 44 + t, none⟩ = some (.int .i64 (R.steps t)) := (h2.steps t ht) ▸ h2.cell (j := 7) (by decide) ht
  have z44 : w2.frozen? ⟨rb, 44 + t, none⟩ = false := h2.free _
  have H2 := hid h2
  clear h2 q2'
  go_wp2
  go_region
  have H3 := hid ((H2.out.setSteps ht (R.steps t + 1)).quiet ((Keep.refl Nil _).drew))
  obtain ⟨W3, hW3⟩ : ∃ W3, W3 = (w2.setCell ⟨rb, 44 + t, none⟩ (.int .i64 (R.steps t + 1))).drew := ⟨_, rfl⟩
  have H3' := hid (show RunAt w0 W3 c _ rb pb L _ _ from hW3 ▸ H3.out)
  rw [← hW3]
  clear hW3 H3 q44 z44
  have q32 : W3.cell? ⟨rb, 32 + k, none⟩ = some (.int .i64 (R.sw k)) := (H3'.out.sw k k6) ▸ H3'.out.cell (j := 5) (by decide) k6
  have q38 : W3.cell? ⟨rb, 38 + t, none⟩ = some (.int .i64 (R.seen t)) := (H3'.out.seen t ht) ▸ H3'.out.cell (j := 6) (by decide) ht
  have q44 : W3.cell? ⟨rb, 44 + t, none⟩ = some (.int .i64 3) := by
    have := H3'.out.cell (j := 7) (i := t) (by decide) ht
    rw [fset_me, ST2.out] at this
    exact this
  rw [ST2.out] at H3'
  go_wp2
  go_quiet (fail)
  go_wp2
  go_ret
  have H5 := H3'.out.quiet ((Keep.refl Nil W3).drewN nq)
  refine ⟨rfl, ?_⟩
  rw [HGO.out, ST2.out]
  exact ⟨_, _, H5⟩
set_option maxRecDepth 100000 in
set_option maxHeartbeats 4000000 in
theorem rtake_yes (h : RunAt w0 w c R rb pb L own f) (hi : PInv c R) (hok : c.ok) (hl : R.s.log.length < 1000000) (ht : t < 6) (ho : R.ops t = some o) (hgv : o.gv = false) (hpc : o.pc = 6) (hx : R.s.ws[o.at c]? = some x) (hw : x = o.w) (hst0 : -1000000 < R.steps t ∧ R.steps t < 1000000) :
    Calls Try.prog 51 #[.pointer (some ⟨rb, 0, none⟩), .int .i64 (t : Int)] w fun e w' => e = .returned (.bool true) ∧ RunTo w0 c (R.go c t o x) rb pb L w' := by
  obtain ⟨k, hk, k6⟩ := hi.ht_k ht ho
  obtain ⟨tb, e0, e1, hstep⟩ := run_tstep h hi hok hl ht ho hgv hx
  have hofv : f 2 t = .int .i64 ((k : Int) + 1) := by
    rw [h.of t ht, (hi.op t o ht ho).2.2.1, hgv, hk]
    simp
  have hsw := hi.swaps hok.nT ht ho (.inl hpc) hx
  rw [show o.ht - 1 = k by omega] at hsw
  have hop : o.op x = { o with pc := 0 } := by
    unfold PO.op
    rw [if_neg (by omega), if_neg (by omega), if_neg (by omega), if_pos hw]
  obtain ⟨r, hr, -⟩ := ((hi.op t o ht ho).1.bl hpc).2.2 (by rw [show o.ht - 1 = k by omega]; exact hsw.1.1 hw)
  rw [show o.ht - 1 = k by omega] at hr
  have hgo : R.go c t o x = { R with s := o.st c R.s x, ops := pup R.ops t none, steps := pup R.steps t (R.steps t + 1), sw := pup R.sw k (R.sw k + 1), L := pup R.L k r, mine := pup R.mine t (R.mine t ++ [o.tw]) } := by
    unfold PRun.go
    rw [if_neg (by omega), if_neg (by omega), if_pos hw, show o.ht - 1 = k by omega, hr, hgv]
    rfl
  have dsw : (R.seen t == R.sw k) = true := beq_iff_eq.2 (hsw.1.1 hw)
  have ST2 := hid hsw.2
  have hsk := hi.si.sw k k6
  have hsl := hi.swl k k6
  have HTE := hid (hi.op t o ht ho).1.ht1
  have wsw : IntKind.i64.wrap (R.sw k + 1) = R.sw k + 1 := by rw [IntKind.wrap_i64]; omega
  have hrl : r.length < 100000 := by
    have h1 := hi.si.len k6
    rw [hr, List.length_cons] at h1
    have := hok.nT
    omega
  have hml : (R.mine t).length < 1000000 := by
    have h1 := nodup_bd (n := c.nT) (hi.mn t ht) fun y hy => by
      obtain ⟨b, hb, -⟩ := hi.mi t ht y hy
      exact ((hi.si.out y).1 (by rw [hb]; rfl)).1
    have := hok.nT
    omega
  have he0 : o.e = 0 := (hi.op t o ht ho).1.e0
  have HR := hid hr
  have HRL := hid hrl
  have HML := hid hml
  obtain ⟨s', hs'⟩ : ∃ s', s' = o.st c R.s x := ⟨_, rfl⟩
  obtain ⟨o', ho'⟩ : ∃ o', o' = o.op x := ⟨_, rfl⟩
  rw [← hs'] at hstep hgo
  rw [← ho'] at hstep hop
  try rw [← ho'] at hgo
  have hres : PO.res o' = (o.tw, o.fl, 0) := by rw [hop]; unfold PO.res; rw [if_pos rfl, he0]
  have hdn : (o'.pc == 0) = true := by rw [hop]; rfl
  rw [hpc, hdn] at hstep
  have HSTEP := hid hstep
  have HE := hid (And.intro e0 e1)
  have HGO := hid hgo
  have HRES := hid hres
  have q14 : w.cell? ⟨rb, 14 + t, none⟩ = some (.int .i64 ((k : Int) + 1)) := hofv ▸ h.cell (j := 2) (by decide) ht
  have q2 : w.cell? ⟨rb, 2 + t, none⟩ = some (.pointer (some ⟨tb, 0, none⟩)) := e0 ▸ h.cell (j := 0) (by decide) ht
  have wk : IntKind.i64.wrap ((k : Int) + 1 - 1) = (k : Int) := by rw [IntKind.wrap_i64]; omega
  have ek : (k : Int) + 1 - 1 = (k : Int) := by omega
  have t0 : (0 : Int) ≤ (t : Int) := by omega
  have t6 : (t : Int) < 6 := by omega
  have k0 : (0 : Int) ≤ (k : Int) := by omega
  have k6' : (k : Int) < 6 := by omega
  have ws1 : IntKind.i64.wrap (R.steps t + 1) = R.steps t + 1 := by rw [IntKind.wrap_i64]; omega
  have HST := hid hst0
  clear h hi hx hofv hstep hgo hres hop hdn hs' ho' e0 e1 hpc hgv ho hst0 hk hsw hw hr hsk hsl hrl hml he0
  go_enter Try.func51, Try.ntmps51
  go_wp2_with fail
  refine HSTEP.out.mono ?_
  rintro e w1 ⟨rfl, own1, h1⟩
  have q2' : w1.cell? ⟨rb, 2 + t, none⟩ = some (.pointer (some ⟨tb, 0, none⟩)) := HE.out.1 ▸ h1.cell (j := 0) (by decide) ht
  have H1 := hid h1
  clear h1 q14 q2
  go_wp2_with fail
  refine (run_res H1.out ht HE.out.1 (pup_me (f := R.ops) (k := t) (v := some o')) o.tw o.fl 0 HRES.out).mono ?_
  rintro e w2 ⟨rfl, h2⟩
  have q44 : w2.cell? ⟨rb, 44 + t, none⟩ = some (.int .i64 (R.steps t)) := (h2.steps t ht) ▸ h2.cell (j := 7) (by decide) ht
  have z44 : w2.frozen? ⟨rb, 44 + t, none⟩ = false := h2.free _
  have H2 := hid h2
  clear h2 q2'
  go_wp2
  go_region
  have H3 := hid ((H2.out.setSteps ht (R.steps t + 1)).quiet ((Keep.refl Nil _).drew))
  obtain ⟨W3, hW3⟩ : ∃ W3, W3 = (w2.setCell ⟨rb, 44 + t, none⟩ (.int .i64 (R.steps t + 1))).drew := ⟨_, rfl⟩
  have H3' := hid (show RunAt w0 W3 c _ rb pb L _ _ from hW3 ▸ H3.out)
  rw [← hW3]
  clear hW3 H3 q44 z44
  have q32 : W3.cell? ⟨rb, 32 + k, none⟩ = some (.int .i64 (R.sw k)) := (H3'.out.sw k k6) ▸ H3'.out.cell (j := 5) (by decide) k6
  have q38 : W3.cell? ⟨rb, 38 + t, none⟩ = some (.int .i64 (R.seen t)) := (H3'.out.seen t ht) ▸ H3'.out.cell (j := 6) (by decide) ht
  have q44 : W3.cell? ⟨rb, 44 + t, none⟩ = some (.int .i64 3) := by
    have := H3'.out.cell (j := 7) (i := t) (by decide) ht
    rw [fset_me, ST2.out] at this
    exact this
  rw [ST2.out] at H3'
  obtain ⟨n, hn⟩ : ∃ n, n = r.reverse.length := ⟨_, rfl⟩
  have hst := H3'.out.stk k k6
  have hst1 : ORow W3 3 (fset f 7 t (.int .i64 (2 + 1)) 4 k) (r.reverse ++ [o.tw]) := by
    have := hst.1
    rw [HR.out, List.reverse_cons] at this
    exact this
  obtain ⟨g, off, cp, hsv, hc1, hc2, hrow⟩ := hst1.init
  obtain ⟨g', off', cp', hsv', hcell⟩ := hst1.cell (i := r.reverse.length) (x := o.tw) (List.getElem?_concat_length)
  rw [hsv] at hsv'
  simp only [Value.slice.injEq, Option.some.injEq, Addr.mk.injEq, and_true] at hsv'
  obtain ⟨⟨rfl, rfl⟩, -, rfl⟩ := hsv'
  rw [← hn] at hsv hc1 hrow hcell
  have q26 : W3.cell? ⟨rb, 26 + k, none⟩ = some (.slice (some ⟨g, off, none⟩) (n + 1) cp) := by
    have := H3'.out.cell (j := 4) (i := k) (by decide) k6
    rw [hsv] at this
    exact this
  have z26 : W3.frozen? ⟨rb, 26 + k, none⟩ = false := H3'.out.free _
  have hgt : own1 g = some (20 + k) := hst.2 g (by rw [hsv]; rfl)
  obtain ⟨wn, en, wn2, n0, n1, n2, dn⟩ := idx_facts hc1 (by rw [hn, List.length_reverse]; exact HRL.out)
  have HN := hid hn
  have HROW := hid hrow
  have HGT := hid hgt
  have HC := hid (And.intro hc1 hc2)
  clear hst hst1 hsv hn hrow hgt hc1 hc2
  go_wp2
  go_quiet (fail)
  obtain ⟨W4, hW4⟩ : ∃ W4, W4 = W3.drewN nq := ⟨_, rfl⟩
  rw [← hW4]
  have k4 : Keep Nil W3 W4 := hW4 ▸ (Keep.refl Nil W3).drewN nq
  have H4 := hid (H3'.out.quiet k4)
  have hcell4 := k4.cell hcell (fun h => h)
  have q26' := k4.cell q26 (fun h => h)
  have z26' : W4.frozen? ⟨rb, 26 + k, none⟩ = false := H4.out.free _
  have HROW4 := hid (HROW.out.keep k4 (fun _ _ h => h))
  clear hW4 k4 hcell q26 z26 q32 q38 q44 H3' HROW
  go_wp2
  go_region
  have H5 := hid ((H4.out.setStk k6 (.slice (some ⟨g, off, none⟩) n cp) r ⟨HROW4.out, fun q e => by cases e; exact HGT.out⟩).quiet ((Keep.refl Nil _).drew))
  obtain ⟨W5, hW5⟩ : ∃ W5, W5 = (W4.setCell ⟨rb, 26 + k, none⟩ (.slice (some ⟨g, off, none⟩) n cp)).drew := ⟨_, rfl⟩
  have H5' := hid (show RunAt w0 W5 c _ rb pb L _ _ from hW5 ▸ H5.out)
  rw [← hW5]
  clear hW5 H5 hcell4 q26' z26' HROW4 H4 wn en wn2 n0 n1 n2 dn
  obtain ⟨vm, hvm⟩ : ∃ v, v = f 3 t := ⟨_, rfl⟩
  have HM := hid (show RwAt W5 own1 (14 + t) vm (R.mine t) from hvm ▸ H5'.out.mine t ht)
  have q20 : W5.cell? ⟨rb, 20 + t, none⟩ = some vm := hvm ▸ H5'.out.cell (j := 3) (by decide) ht
  have HVM := hid hvm
  have hz5 : rb < W5.heap.size := lt_of_block H5'.out.head
  have HNR := hid (show vm.ownBlock ≠ some rb from fun e => by have := HM.out.2 rb e; rw [H5'.out.orb] at this; simp at this; omega)
  clear hvm
  go_wp2
  go_region_law (refine step_oapp _ rfl (.tmp 162) (.tmp 164) 48 rfl 3 Try.underlying48 infoInt vm (R.mine t) (by simp [Act.eval]) (HM.out.1.keep (((Keep.refl Nil W5).alloc _).drew) (fun _ _ h => h)) o.tw _ (by simp [Act.eval]) (rd_new _ _ _ _ _ _) HML.out ?_; intro a2 c2 w6 ho2 ho1 hgr hst2; have hb1 : w6.heap[rb]? = W5.heap[rb]? := (hgr.block rb (by simp; omega) (fun e => HNR.out e.symm)).trans (Below.heap_alloc W5.drew _ rb hz5); have hb2 := hb1.trans H5'.out.head; have c20 : w6.cell? ⟨rb, 20 + t, none⟩ = some vm := (by rw [World.cell?_of_block (a := ⟨rb, 20 + t, none⟩) hb1]; exact q20); have z20 : w6.frozen? ⟨rb, 20 + t, none⟩ = false := free_of hb2 _; have K6 := hid ((((Keep.refl (fun q => vm.ownBlock = some q) W5).alloc _).drew).grown hgr (fun q e => .inl e)); have HO2 := hid ho2; have HO1 := hid ho1; have HS2 := hid hst2; clear hgr hb1 hb2 ho2 ho1 hst2)
  all_goals
    obtain ⟨own2, h6, hrw⟩ := H5'.out.grow (tag := 14 + t) (by omega) (by omega) (fun u hu => by omega) HM.out.2 K6.out HO2.out (fun q e => (HS2.out q e).imp id (fun e => by simp at e; omega)) (fun u hu e => by
      obtain rfl : u = t := by omega
      rw [fset_row (by decide), fset_row (by decide), ← HVM.out]
      exact HO1.out) (fun u hu e => by omega)
    have H7 := hid (h6.setMine ht _ _ hrw)
    obtain ⟨W7, hW7⟩ : ∃ W7, W7 = w6.setCell ⟨rb, 20 + t, none⟩ (.slice a2 ((R.mine t).length + 1) c2) := ⟨_, rfl⟩
    have H7' := hid (show RunAt w0 W7 c _ rb pb L _ _ from hW7 ▸ H7.out)
    rw [← hW7]
    clear hW7 H7 c20 z20 h6 hrw q20
    have q32 : W7.cell? ⟨rb, 32 + k, none⟩ = some (.int .i64 (R.sw k)) := (H7'.out.sw k k6) ▸ H7'.out.cell (j := 5) (by decide) k6
    have z32 : W7.frozen? ⟨rb, 32 + k, none⟩ = false := H7'.out.free _
    go_wp2
    go_region
    have H8 := hid ((H7'.out.setSw k6 (R.sw k + 1)).quiet ((Keep.refl Nil _).drew))
    obtain ⟨W8, hW8⟩ : ∃ W8, W8 = (W7.setCell ⟨rb, 32 + k, none⟩ (.int .i64 (R.sw k + 1))).drew := ⟨_, rfl⟩
    have H8' := hid (show RunAt w0 W8 c _ rb pb L _ _ from hW8 ▸ H8.out)
    rw [← hW8]
    clear hW8 H8 q32 z32
    have q2 : W8.cell? ⟨rb, 2 + t, none⟩ = some (.pointer (some ⟨tb, 0, none⟩)) := HE.out.1 ▸ H8'.out.cell (j := 0) (by decide) ht
    have z2 : W8.frozen? ⟨rb, 2 + t, none⟩ = false := H8'.out.free _
    go_wp2
    go_ret
    have H9 := H8'.out.drop0 ht HE.out.2
    refine ⟨rfl, ?_⟩
    rw [HGO.out, ST2.out]
    rw [pup_pup] at H9
    exact ⟨_, _, H9⟩
end
end Go.Proofs.Ytjghenomeindcaa
