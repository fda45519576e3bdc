/- gate: acts of the run: a section is entered, left, begun: contracts. -/
import Derived.Test.YtihgfklajhhikaaGateAct
set_option linter.unusedVariables false
set_option linter.unusedSimpArgs false
namespace Go.Proofs.Ytihgfklajhhikaa
open Go.RowKit Go.Lf
section
variable {w wr w' : World} {rb g r mb n : Nat} {F F' : Nat → Prop} {ml ml' : List (Int × Value)} {ws ws' : List Int} {th : List GT} {log log' : List Acc} {K : Int}
theorem wrap_inc {x : Int} (h0 : 0 ≤ x) (h1 : x ≤ 6) : IntKind.u64.wrap (x + 1) = x + 1 := by rw [IntKind.wrap_u64]; omega
theorem wrap_dec {x : Int} (h0 : 1 ≤ x) (h1 : x ≤ 6) : IntKind.u64.wrap (x + 18446744073709551615) = x - 1 := by rw [IntKind.wrap_u64]; omega
set_option maxRecDepth 100000 in
set_option maxHeartbeats 8000000 in
theorem grenter_count (h : GRunAt w wr rb g r mb n F ml ws th log) (hI : GInv n ⟨ws, th.map GT.abs⟩ K) (hK : K < 1000000000000) {t : Nat} (t6 : t < 6) {x : GT} (hx : th[t]? = some x) {eb sb c : Nat} (hp : x.p = .ent eb sb (some c)) (hlog : log.length < 10000000) :
    Calls Try.prog 88 #[ptr rb, .int .i64 t] wr fun e w' => e = .returned (.bool true) ∧ GRunTo w rb g r mb n (GS.enter n ⟨ws, th.map GT.abs⟩ t x.abs) (log.length + 1) w' := by
  have hpa : x.abs.p = .ent (some c) := by unfold GT.abs; simp only; rw [hp]; rfl
  obtain ⟨e1, e2, e3⟩ := (h.thr t x hx).ent _ _ _ hp
  have be := h.blk t x eb hx (.inl (by rw [hp]; exact .inl rfl))
  have bs := h.blk t x sb hx (.inl (by rw [hp]; exact .inr rfl))
  have tk := hI.thr t x.abs (abs_at hx)
  have s0 : 0 ≤ x.sec := tk.s0
  have s1 : x.sec ≤ K := tk.s1
  obtain ⟨hv, v0, v1⟩ := hI.cntAt (tk.ent c hpa)
  have hsx := gestep_count h.mem e1 c e2 be.1 bs.1 (by omega) (by omega) (cntIn c (th.map GT.abs)) hv v0 (by omega) (by omega)
  rw [wrap_inc v0 v1] at hsx
  have heq : GS.enter n ⟨ws, th.map GT.abs⟩ t x.abs = ⟨ws.set c (cntIn c (th.map GT.abs) + 1), (th.set t { x with p := .inn sb c, sec := x.sec + 1 }).map GT.abs⟩ := by
    unfold GS.enter
    rw [hpa]
    simp only
    rw [wat_of hv, map_set']
    rfl
  rw [heq]
  obtain ⟨c0, c1, c2, c3, c4, c5, c6⟩ := h.cells hx
  have hr : GT.raw x = ⟨ptr eb, .pointer none, .bool false, .int .i64 x.val, .int .i64 x.sec, .int .u64 x.set, gmustV x.mu⟩ := by unfold GT.raw; rw [hp]
  rw [hr] at c0
  simp only at c0
  have ST := hid hsx
  have H := hid h
  have HX := hid hx
  have HP := hid hp
  have BS := hid bs
  have HR := hid hr
  have KX := hid (show (th.map GT.raw)[t]? = some (GT.raw x) by simp [hx])
  clear h hI hx hp hpa hsx heq hv e1 e2 e3 be bs hr c1 c2 c3 c4 c5 c6 tk
  obtain ⟨cn, hcn⟩ : ∃ cn, cn = cntIn c (th.map GT.abs) := ⟨_, rfl⟩
  rw [← hcn] at ST ⊢
  clear hcn v0 v1
  go_enter Try.func88, Try.ntmps88
  go_wp2_with fail
  refine ST.out.mono ?_
  rintro e w2 ⟨rfl, F2, m2, s2, k2, f2⟩
  have hnS := H.out.frbs HX.out (S := fun k => F k ∨ k = sb) (fun k e => e.elim .inl (fun e => .inr (.inl (by rw [HP.out]; exact .inr e))))
  have r2 := H.out.run.keep k2 hnS.1
  have hkx := KX.out
  rw [HR.out] at hkx
  obtain ⟨d0, -, d2, -, d4, -, -⟩ := r2.cells hkx
  simp only at d0 d2 d4
  have z0 := r2.free (2 + t * 7)
  have z2 := r2.free (2 + t * 7 + 2)
  have z4 := r2.free (2 + t * 7 + 4)
  have p0 := r2.set hkx ⟨.pointer none, .pointer none, .bool false, .int .i64 x.val, .int .i64 x.sec, .int .u64 x.set, gmustV x.mu⟩ (j := 0) (by decide) (.pointer none) rfl
  have p2 := p0.set (put_self hkx _) ⟨.pointer none, .pointer none, .bool true, .int .i64 x.val, .int .i64 x.sec, .int .u64 x.set, gmustV x.mu⟩ (j := 2) (by decide) (.bool true) rfl
  have p4 := p2.set (put_self (put_self hkx _) _) ⟨.pointer none, .pointer none, .bool true, .int .i64 x.val, .int .i64 (x.sec + 1), .int .u64 x.set, gmustV x.mu⟩ (j := 4) (by decide) (.int .i64 (x.sec + 1)) rfl
  rw [List.set_set, List.set_set] at p4
  have k3 : Keep (fun k => k = rb) w2 (((w2.setCell ⟨rb, 2 + t * 7 + 0, none⟩ (.pointer none)).setCell ⟨rb, 2 + t * 7 + 2, none⟩ (.bool true)).setCell ⟨rb, 2 + t * 7 + 4, none⟩ (.int .i64 (x.sec + 1))) :=
    Keep.setCell (S := fun k => k = rb) (p := ⟨rb, 2 + t * 7 + 4, none⟩) (Keep.setCell (S := fun k => k = rb) (p := ⟨rb, 2 + t * 7 + 2, none⟩) (Keep.setCell (S := fun k => k = rb) (p := ⟨rb, 2 + t * 7 + 0, none⟩) (Keep.refl _ w2) (.inl rfl) _) (.inl rfl) _) (.inl rfl) _
  have hrbs : ¬ sb = rb := BS.out.2.2.2.1
  have nF2 : ¬ F2 rb := fun e => (f2 rb e).elim H.out.frb (fun h => by have := lt_of_block H.out.run; omega)
  have hfin : GRunAt w (((w2.setCell ⟨rb, 2 + t * 7 + 0, none⟩ (.pointer none)).setCell ⟨rb, 2 + t * 7 + 2, none⟩ (.bool true)).setCell ⟨rb, 2 + t * 7 + 4, none⟩ (.int .i64 (x.sec + 1))) rb g r mb n F2 ml (ws.set c (cn + 1)) (th.set t { x with p := .inn sb c, sec := x.sec + 1 }) (log ++ [⟨t, c, 3, cn, cn + 1, false⟩]) := by
    refine H.out.upd HX.out _ ((k2.mono (T := fun k => F k ∨ k = sb ∨ k = rb) (fun k _ e => e.elim .inl (fun e => .inr (.inl e)))).trans k3 (fun k _ e => .inr (.inr e))) (fun k e _ => ?_) (m2.keep k3 (fun k hk e => nF2 (e ▸ hk))) f2 ((H.out.eng.keep k2 hnS.2.1 hnS.2.2).keep k3 (fun e => H.out.rgr.1 e.symm) (fun e => H.out.rgr.2.1 e.symm)) ?_ ⟨fun _ _ _ hc => by simp at hc, fun sb' c' hc => ?_, fun _ _ _ _ _ _ _ hc => by simp at hc, fun qb l hq => ?_⟩ (fun k hk => ?_) (fun k => ?_) H.out.nd (by simp) (fun _ _ _ _ _ _ _ hc => by simp at hc)
    · rcases e with e | e | e
      · exact .inl e
      · exact .inr (.inr (.inr (.inl (by rw [HP.out]; exact .inr e))))
      · exact .inr (.inr (.inl e))
    · rw [map_set']; exact p4
    · simp only [GPh.inn.injEq] at hc
      obtain ⟨rfl, rfl⟩ := hc
      exact k3.at s2 hrbs
    · obtain ⟨q1, q2, q3⟩ := (H.out.thr t x HX.out).mu qb l hq
      rw [HP.out] at q3
      have bq := H.out.blk t x qb HX.out (.inr ⟨l, hq⟩)
      exact ⟨k3.at (k2.at q1 (fun e => e.elim bq.1 (fun e => q3 (.inr e)))) bq.2.2.2.1, q2, fun e => q3 (.inr e)⟩
    · have hh : x.has k := hk.elim (fun e => .inl (by rw [HP.out]; exact .inr e)) .inr
      exact ⟨by have := (H.out.blk t x k HX.out hh).2.2.1; have := k2.size; have := k3.size; omega, .inl hh⟩
    · split
      · rename_i e; rw [e, H.out.look HX.out, HP.out]; rfl
      · rfl
  have R2 := hid hfin
  clear m2 s2 k2 f2 hnS r2 ST c0 p0 p2 p4 hkx k3 hrbs nF2 hfin
  go_wp2
  go_ret
  exact ⟨rfl, F2, _, _, _, _, R2.out, by simp, rfl⟩
theorem grenter_ok (h : GRunAt w wr rb g r mb n F ml ws th log) (hI : GInv n ⟨ws, th.map GT.abs⟩ K) (hn : n ≤ 16) (hK : K < 1000000000000) {t : Nat} (t6 : t < 6) {x : GT} (hx : th[t]? = some x) {eb sb : Nat} {c : Option Nat} (hp : x.p = .ent eb sb c) (hlog : log.length < 10000000) :
    Calls Try.prog 88 #[ptr rb, .int .i64 t] wr fun e w' => e = .returned (.bool true) ∧ GRunTo w rb g r mb n (GS.enter n ⟨ws, th.map GT.abs⟩ t x.abs) (log.length + 1) w' := by
  cases c with
  | none => exact grenter_choose h hI hn t6 hx hp hlog
  | some c => exact grenter_count h hI hK t6 hx hp hlog

/-! act. -/
set_option maxRecDepth 100000 in
set_option maxHeartbeats 4000000 in
theorem gact_en (h : GRunAt w wr rb g r mb n F ml ws th log) {t : Nat} (t6 : t < 6) {x : GT} (hx : th[t]? = some x) {eb sb : Nat} {c : Option Nat} (hp : x.p = .ent eb sb c) (what v s : Int) {e0 : Bool} {Q : World → Prop}
    (hc : Calls Try.prog 88 #[ptr rb, .int .i64 t] wr fun e w' => e = .returned (.bool e0) ∧ Q w') :
    Calls Try.prog 50 #[ptr rb, .int .i64 t, .int .u8 what, .int .i64 v, .int .u64 s] wr fun e w' => e = .returned (.bool e0) ∧ Q w' := by
  obtain ⟨c0, c1, c2, c3, c4, c5, c6⟩ := h.cells hx
  have hr : GT.raw x = ⟨ptr eb, .pointer none, .bool false, .int .i64 x.val, .int .i64 x.sec, .int .u64 x.set, gmustV x.mu⟩ := by unfold GT.raw; rw [hp]
  rw [hr] at c0
  simp only at c0
  have HC := hid hc
  clear h hx hp hc c1 c2 c3 c4 c5 c6 hr
  go_enter Try.func50, Try.ntmps50
  go_wp2_with fail
  refine HC.out.mono ?_
  rintro e w2 ⟨rfl, hq⟩
  have HQ := hid hq
  clear hq
  go_wp2
  go_ret
  exact ⟨rfl, HQ.out⟩
set_option maxRecDepth 100000 in
set_option maxHeartbeats 4000000 in
theorem gact_wait (h : GRunAt w wr rb g r mb n F ml ws th log) {t : Nat} (t6 : t < 6) {x : GT} (hx : th[t]? = some x) {wb lb : Nat} {lv : Value} {f : Int} {st side : Nat} {left : List Nat} (hp : x.p = .wt wb lb lv f st side left) (what v s : Int) {e0 : Bool} {Q : World → Prop}
    (hc : Calls Try.prog 89 #[ptr rb, .int .i64 t] wr fun e w' => e = .returned (.bool e0) ∧ Q w') :
    Calls Try.prog 50 #[ptr rb, .int .i64 t, .int .u8 what, .int .i64 v, .int .u64 s] wr fun e w' => e = .returned (.bool e0) ∧ Q w' := by
  obtain ⟨c0, c1, c2, c3, c4, c5, c6⟩ := h.cells hx
  have hr : GT.raw x = ⟨.pointer none, ptr wb, .bool false, .int .i64 x.val, .int .i64 x.sec, .int .u64 x.set, gmustV x.mu⟩ := by unfold GT.raw; rw [hp]
  rw [hr] at c0 c1
  simp only at c0 c1
  have HC := hid hc
  clear h hx hp hc c2 c3 c4 c5 c6 hr
  go_enter Try.func50, Try.ntmps50
  go_wp2_with fail
  refine HC.out.mono ?_
  rintro e w2 ⟨rfl, hq⟩
  have HQ := hid hq
  clear hq
  go_wp2
  go_ret
  exact ⟨rfl, HQ.out⟩
set_option maxRecDepth 100000 in
set_option maxHeartbeats 4000000 in
theorem gact_out (h : GRunAt w wr rb g r mb n F ml ws th log) {t : Nat} (t6 : t < 6) {x : GT} (hx : th[t]? = some x) {sb c : Nat} (hp : x.p = .inn sb c) (what v s : Int) (h0 : 0 ≤ what) (hw : 1 < what % 4) :
    Calls Try.prog 50 #[ptr rb, .int .i64 t, .int .u8 what, .int .i64 v, .int .u64 s] wr fun e w' => e = .returned (.bool true) ∧ wr = w' := by
  obtain ⟨c0, c1, c2, c3, c4, c5, c6⟩ := h.cells hx
  have hr : GT.raw x = ⟨.pointer none, .pointer none, .bool true, .int .i64 x.val, .int .i64 x.sec, .int .u64 x.set, gmustV x.mu⟩ := by unfold GT.raw; rw [hp]
  rw [hr] at c0 c1 c2
  simp only at c0 c1 c2
  have d1 : decide (1 < what % 4) = true := decide_eq_true hw
  clear h hx hp hw c3 c4 c5 c6 hr
  go_enter Try.func50, Try.ntmps50
  go_wp2
  go_ret
  exact ⟨rfl, rfl⟩
theorem gsErr_ok {t : Nat} (t6 : t < 6) : gsErr (t : Int) t = 0 := by unfold gsErr; rw [if_neg (by omega), if_neg (by omega)]
set_option maxRecDepth 100000 in
set_option maxHeartbeats 4000000 in
theorem gact_exit (h : GRunAt w wr rb g r mb n F ml ws th log) (hI : GInv n ⟨ws, th.map GT.abs⟩ K) {t : Nat} (t6 : t < 6) {x : GT} (hx : th[t]? = some x) {sb c : Nat} (hp : x.p = .inn sb c) (what v s : Int) (h0 : 0 ≤ what) (hw : ¬ 1 < what % 4) (hlog : log.length < 10000000) :
    Calls Try.prog 50 #[ptr rb, .int .i64 t, .int .u8 what, .int .i64 v, .int .u64 s] wr fun e w' => e = .returned (.bool true) ∧ GRunTo w rb g r mb n ⟨ws.set c (wat ws c - 1), (th.map GT.abs).set t { x.abs with p := .idle }⟩ (log.length + 1) w' := by
  have hpa : x.abs.p = .inn c := by unfold GT.abs; simp only; rw [hp]; rfl
  have e1 := (h.thr t x hx).inn _ _ hp
  have bs := h.blk t x sb hx (.inl (by rw [hp]; exact rfl))
  obtain ⟨hv, v0, v1⟩ := hI.cntAt ((hI.thr t x.abs (abs_at hx)).inn c hpa).1
  have v2 := cntIn_pos (a := c) (abs_at hx) (by rw [hpa]; simp [GP.isAt])
  have hsx := gexit_ok c (cntIn c (th.map GT.abs)) h.mem h.eng h.fg h.fr (t : Int) t (gsErr_ok t6) (by rw [h.look hx, hp]; rfl) e1 bs.1 hv v0 (by omega) (by omega)
  rw [wrap_dec v2 v1] at hsx
  have heq : (⟨ws.set c (wat ws c - 1), (th.map GT.abs).set t { x.abs with p := .idle }⟩ : GS) = ⟨ws.set c (cntIn c (th.map GT.abs) - 1), (th.set t { x with p := .idle }).map GT.abs⟩ := by
    rw [wat_of hv, map_set']; rfl
  rw [heq]
  obtain ⟨c0, c1, c2, c3, c4, c5, c6⟩ := h.cells hx
  have hr : GT.raw x = ⟨.pointer none, .pointer none, .bool true, .int .i64 x.val, .int .i64 x.sec, .int .u64 x.set, gmustV x.mu⟩ := by unfold GT.raw; rw [hp]
  rw [hr] at c0 c1 c2
  simp only at c0 c1 c2
  have cg := h.run.top.2
  have d1 : decide (1 < what % 4) = false := decide_eq_false hw
  have ST := hid hsx
  have H := hid h
  have HX := hid hx
  have HP := hid hp
  have BS := hid bs
  have HR := hid hr
  have KX := hid (show (th.map GT.raw)[t]? = some (GT.raw x) by simp [hx])
  clear h hI hx hp hpa hsx heq hv e1 bs hr c3 c4 c5 c6 hw
  obtain ⟨cn, hcn⟩ : ∃ cn, cn = cntIn c (th.map GT.abs) := ⟨_, rfl⟩
  rw [← hcn] at ST ⊢
  clear hcn v0 v1 v2
  go_enter Try.func50, Try.ntmps50
  go_wp2_with fail
  refine ST.out.mono ?_
  rintro e w2 ⟨rfl, F2, m2, g2, k2, f2⟩
  obtain ⟨d1', d2', d3'⟩ := H.out.rgr
  have hnS : ¬ (F rb ∨ rb = r) := fun e => e.elim H.out.frb d2'
  have r2 := H.out.run.keep k2 hnS
  have hkx := KX.out
  rw [HR.out] at hkx
  have dd2 := (r2.cells hkx).2.2.1
  simp only at dd2
  have z2 := r2.free (2 + t * 7 + 2)
  have p2 := r2.set hkx ⟨.pointer none, .pointer none, .bool false, .int .i64 x.val, .int .i64 x.sec, .int .u64 x.set, gmustV x.mu⟩ (j := 2) (by decide) (.bool false) rfl
  have k3 : Keep (fun k => k = rb) w2 (w2.setCell ⟨rb, 2 + t * 7 + 2, none⟩ (.bool false)) := Keep.setCell (S := fun k => k = rb) (p := ⟨rb, 2 + t * 7 + 2, none⟩) (Keep.refl _ w2) (.inl rfl) _
  have nF2 : ¬ F2 rb := fun e => (f2 rb e).elim H.out.frb (fun h => by have := lt_of_block H.out.run; omega)
  have hfin : GRunAt w (w2.setCell ⟨rb, 2 + t * 7 + 2, none⟩ (.bool false)) rb g r mb n F2 (mdel ml t) (ws.set c (cn - 1)) (th.set t { x with p := .idle }) (log ++ [⟨t, c, 3, cn, cn - 1, false⟩]) := by
    refine H.out.upd HX.out _ ((k2.mono (T := fun k => F k ∨ k = r ∨ k = rb) (fun k _ e => e.elim .inl (fun e => .inr (.inl e)))).trans k3 (fun k _ e => .inr (.inr e))) (fun k e _ => ?_) (m2.keep k3 (fun k hk e => nF2 (e ▸ hk))) f2 (g2.keep k3 (fun e => d1' e.symm) (fun e => d2' e.symm)) ?_ ⟨fun _ _ _ hc => by simp at hc, fun _ _ hc => by simp at hc, fun _ _ _ _ _ _ _ hc => by simp at hc, fun qb l hq => ?_⟩ (fun k hk => ?_) (fun k => ?_) (mkeys_del_nodup H.out.nd _) (by simp) (fun _ _ _ _ _ _ _ hc => by simp at hc)
    · rcases e with e | e | e
      · exact .inl e
      · exact .inr (.inl e)
      · exact .inr (.inr (.inl e))
    · rw [map_set']; exact p2
    · obtain ⟨q1, q2, q3⟩ := (H.out.thr t x HX.out).mu qb l hq
      have bq := H.out.blk t x qb HX.out (.inr ⟨l, hq⟩)
      exact ⟨k3.at (k2.at q1 (fun e => e.elim bq.1 bq.2.2.2.2.2)) bq.2.2.2.1, q2, fun e => e⟩
    · have hh : x.has k := hk.elim (fun e => e.elim) .inr
      exact ⟨by have := (H.out.blk t x k HX.out hh).2.2.1; have := k2.size; have := k3.size; omega, .inl hh⟩
    · rw [mlook_del H.out.nd]; rfl
  have R2 := hid hfin
  clear m2 g2 k2 f2 hnS r2 ST c0 c1 c2 cg p2 hkx k3 nF2 hfin d1' d2' d3'
  go_wp2
  go_ret
  exact ⟨rfl, F2, _, _, _, _, R2.out, by simp, rfl⟩

/-- A thread begins to enter a section, and has looked at the gate. -/
theorem ent_has {eb sb : Nat} {c : Option Nat} {k : Nat} (h : (GPh.ent eb sb c).has k) : k = eb ∨ k = sb := h
set_option maxRecDepth 100000 in
set_option maxHeartbeats 8000000 in
theorem gact_enter (h : GRunAt w wr rb g r mb n F ml ws th log) (hI : GInv n ⟨ws, th.map GT.abs⟩ K) (hn : n ≤ 16) (hK : K < 1000000000000) {t : Nat} (t6 : t < 6) {x : GT} (hx : th[t]? = some x) (hp : x.p = .idle) (what s : Int) (v : Nat) (h0 : 0 ≤ what) (hw : what % 4 < 2) (hv : v < 64) (hlog : log.length < 10000000) :
    Calls Try.prog 50 #[ptr rb, .int .i64 t, .int .u8 what, .int .i64 v, .int .u64 s] wr fun e w' => e = .returned (.bool true) ∧ GRunTo w rb g r mb n (GS.enter n ⟨ws, (th.map GT.abs).set t { x.abs with p := .ent none, val := v }⟩ t { x.abs with p := .ent none, val := v }) (log.length + 1) w' := by
  have hpa : x.abs.p = .idle := by unfold GT.abs; simp only; rw [hp]; rfl
  have hlk : mlook ml t = none := by rw [h.look hx, hp]; rfl
  have he : genErr t t v (mlook ml t).isSome = 0 := by unfold genErr; rw [gsErr_ok t6, if_neg (by simp), if_neg (by omega), hlk]; rfl
  have hsx := genter_ok h.eng (t : Int) t v he (Int.le_refl 0) (by decide) hI.n0 hn
  have hbeg := hI.begin (abs_at hx) hpa hv
  obtain ⟨c0, c1, c2, c3, c4, c5, c6⟩ := h.cells hx
  have hr : GT.raw x = ⟨.pointer none, .pointer none, .bool false, .int .i64 x.val, .int .i64 x.sec, .int .u64 x.set, gmustV x.mu⟩ := by unfold GT.raw; rw [hp]
  rw [hr] at c0 c1 c2
  simp only at c0 c1 c2
  have cg := h.run.top.2
  have d1 : decide (what % 4 < 2) = true := decide_eq_true hw
  have ST := hid hsx
  have H := hid h
  have HX := hid hx
  have HP := hid hp
  have HR := hid hr
  have HB := hid hbeg
  have KX := hid (show (th.map GT.raw)[t]? = some (GT.raw x) by simp [hx])
  clear h hI hx hp hpa hsx hlk he hbeg hr c3 c4 c5 c6 hw
  go_enter Try.func50, Try.ntmps50
  go_wp2_with fail
  refine ST.out.mono ?_
  rintro e w2 ⟨eb, sb, rfl, g2, e2, s2, k2, z2e, z2s⟩
  obtain ⟨d1', d2', d3'⟩ := H.out.rgr
  have r2 := H.out.run.keep k2 (fun e => d2' e)
  have hkx := KX.out
  rw [HR.out] at hkx
  obtain ⟨dd0, -, -, dd3, -⟩ := r2.cells hkx
  simp only at dd0 dd3
  have z0 := r2.free (2 + t * 7)
  have z3 := r2.free (2 + t * 7 + 3)
  have p0 := r2.set hkx ⟨ptr eb, .pointer none, .bool false, .int .i64 x.val, .int .i64 x.sec, .int .u64 x.set, gmustV x.mu⟩ (j := 0) (by decide) (ptr eb) rfl
  have p3 := p0.set (put_self hkx _) ⟨ptr eb, .pointer none, .bool false, .int .i64 v, .int .i64 x.sec, .int .u64 x.set, gmustV x.mu⟩ (j := 3) (by decide) (.int .i64 v) rfl
  rw [List.set_set] at p3
  have k3 : Keep (fun k => k = rb) w2 ((w2.setCell ⟨rb, 2 + t * 7 + 0, none⟩ (ptr eb)).setCell ⟨rb, 2 + t * 7 + 3, none⟩ (.int .i64 v)) :=
    Keep.setCell (S := fun k => k = rb) (p := ⟨rb, 2 + t * 7 + 3, none⟩) (Keep.setCell (S := fun k => k = rb) (p := ⟨rb, 2 + t * 7 + 0, none⟩) (Keep.refl _ w2) (.inl rfl) _) (.inl rfl) _
  have lrb := lt_of_block H.out.run
  have flt := H.out.mem.lt
  have les := lt_of_block e2
  have lss := lt_of_block s2
  have hfin : GRunAt w ((w2.setCell ⟨rb, 2 + t * 7 + 0, none⟩ (ptr eb)).setCell ⟨rb, 2 + t * 7 + 3, none⟩ (.int .i64 v)) rb g r mb n F (mput ml t (ptr sb)) ws (th.set t { x with p := .ent eb sb none, val := v }) log := by
    refine H.out.upd HX.out _ ((k2.mono (T := fun k => k = r ∨ k = rb) (fun k _ e => .inl e)).trans k3 (fun k _ e => .inr e)) (fun k e _ => ?_) ((H.out.mem.keep k2 (fun k hk e => H.out.fr (e ▸ hk))).keep k3 (fun k hk e => H.out.frb (e ▸ hk))) (fun k hk => .inl hk) (g2.keep k3 (fun e => d1' e.symm) (fun e => d2' e.symm)) ?_ ⟨fun eb' sb' c' hc => ?_, fun _ _ hc => by simp at hc, fun _ _ _ _ _ _ _ hc => by simp at hc, fun qb l hq => ?_⟩ (fun k hk => ?_) (fun k => ?_) (mkeys_put_nodup H.out.nd _ _) (Nat.le_refl _) (fun _ _ _ _ _ _ _ hc => by simp at hc)
    · rcases e with e | e
      · exact .inr (.inl e)
      · exact .inr (.inr (.inl e))
    · rw [map_set']; exact p3
    · simp only [GPh.ent.injEq] at hc
      obtain ⟨rfl, rfl, rfl⟩ := hc
      refine ⟨?_, k3.at s2 (by omega), gtype_ne e2 s2 (by decide)⟩
      rw [show ((4 * (v % n) : Nat) : Int) = 0 + 4 * ((v % n : Nat) : Int) by omega]
      exact k3.at e2 (by omega)
    · obtain ⟨q1, q2, q3⟩ := (H.out.thr t x HX.out).mu qb l hq
      have bq := H.out.blk t x qb HX.out (.inr ⟨l, hq⟩)
      exact ⟨k3.at (k2.at q1 bq.2.2.2.2.2) bq.2.2.2.1, q2, fun e => by have := bq.2.2.1; rcases ent_has e with e | e <;> omega⟩
    · have hz3 := k3.size
      rcases hk with hk | ⟨l, hk⟩
      · rcases ent_has hk with e | e
        · subst e; exact ⟨by omega, .inr ⟨z2e, fun e => by have := flt _ e; omega⟩⟩
        · subst e; exact ⟨by omega, .inr ⟨z2s, fun e => by have := flt _ e; omega⟩⟩
      · have hh : x.has k := .inr ⟨l, hk⟩
        exact ⟨by have := (H.out.blk t x k HX.out hh).2.2.1; have := k2.size; omega, .inl hh⟩
    · rw [mlook_put]; rfl
  have hc := grenter_ok (K := K) hfin (by rw [map_set']; exact HB.out) hn hK t6 (put_self HX.out _) (eb := eb) (sb := sb) (c := none) rfl hlog
  rw [map_set'] at hc
  have HC := hid hc
  clear ST g2 e2 s2 k2 r2 c0 c1 c2 cg p0 p3 hkx k3 lrb flt les lss hfin hc z2e z2s d1' d2' d3'
  go_wp2_with fail
  refine HC.out.mono ?_
  rintro e w3 ⟨rfl, hq⟩
  have HQ := hid hq
  clear hq HC
  go_wp2
  go_ret
  exact ⟨rfl, HQ.out⟩
end
end Go.Proofs.Ytihgfklajhhikaa
