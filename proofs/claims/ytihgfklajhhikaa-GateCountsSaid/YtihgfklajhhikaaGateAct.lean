/- gate: acts of the run but for beginnings: contracts. -/
import Derived.Test.YtihgfklajhhikaaGateAct0
set_option linter.unusedVariables false
set_option linter.unusedSimpArgs false
namespace Go.Proofs.Ytihgfklajhhikaa
open Go.RowKit Go.Lf
section
variable {w wr w' : World} {rb g r mb n : Nat} {F F' : Nat → Prop} {ml ml' : List (Int × Value)} {ws ws' : List Int} {th : List GT} {log log' : List Acc} {K : Int}
/-- The run's own block has turned, and what a thread is with it. -/
theorem GRunAt.turn (h : GRunAt w wr rb g r mb n F ml ws th log) {t : Nat} {x x' : GT} (hx : th[t]? = some x) (hk : Keep (fun k => k = rb) wr w') (hrun : RunRow w' rb mb g ((th.set t x').map GT.raw)) (hth : ThAt wr g mb n t x') (hb : ∀ k, x'.has k → x.has k) (hsb : x'.p.sbv = x.p.sbv)
    (hfs : ∀ wb lb lv f st side left, x'.p = .wt wb lb lv f st side left → f ≤ log.length) : GRunAt w w' rb g r mb n F ml ws (th.set t x') log := by
  obtain ⟨d1, d2, d3⟩ := h.rgr
  refine h.upd hx x' hk (fun k e _ => .inr (.inr (.inl e))) (h.mem.keep hk (fun k hF e => h.frb (e ▸ hF))) (fun k hk => .inl hk) (h.eng.keep hk (fun e => d1 e.symm) (fun e => d2 e.symm)) hrun (hth.keep hk (fun k hk e => (h.blk t x k hx (hb k hk)).2.2.2.1 e)) (fun k hk' => ⟨by have := (h.blk t x k hx (hb k hk')).2.2.1; have := hk.size; omega, .inl (hb k hk')⟩) (fun k => ?_) h.nd (Nat.le_refl _) hfs
  split
  · rename_i e; rw [e, h.look hx, hsb]
  · rfl
theorem RunRow.keep {w w' : World} {rs : List RT} {S : Nat → Prop} (h : RunRow w rb mb g rs) (hk : Keep S w w') (hn : ¬ S rb) : RunRow w' rb mb g rs := hk.at h hn
theorem GRunAt.idle (h : GRunAt w wr rb g r mb n F ml ws th log) {t : Nat} {x : GT} (hx : th[t]? = some x) {wb lb : Nat} {lv : Value} {f : Int} {st side : Nat} {left : List Nat} (hp : x.p = .wt wb lb lv f st side left) :
    GRunAt w (wr.setCell ⟨rb, 2 + t * 7 + 1, none⟩ (.pointer none)) rb g r mb n F ml ws (th.set t { x with p := .idle }) log := by
  refine h.turn hx (Keep.setCell (Keep.refl (fun k => k = rb) wr) (.inl rfl) _) ?_ ⟨fun _ _ _ hc => by simp at hc, fun _ _ hc => by simp at hc, fun _ _ _ _ _ _ _ hc => by simp at hc, fun qb l hq => ?_⟩ (fun k hk => ?_) (by rw [hp]; rfl) (fun _ _ _ _ _ _ _ hc => by simp at hc)
  · have hr : GT.raw x = ⟨.pointer none, ptr wb, .bool false, .int .i64 x.val, .int .i64 x.sec, .int .u64 x.set, gmustV x.mu⟩ := by unfold GT.raw; rw [hp]
    rw [map_set']
    exact h.run.set (x := GT.raw x) (by simp [hx]) _ (by decide) _ (by rw [hr]; rfl)
  · obtain ⟨q1, q2, -⟩ := (h.thr t x hx).mu qb l hq
    exact ⟨q1, q2, fun h => h⟩
  · rcases hk with hk | ⟨l, hl⟩
    · exact hk.elim
    · exact .inr ⟨l, hl⟩

set_option maxRecDepth 100000 in
set_option maxHeartbeats 8000000 in
theorem grwait_ok (h : GRunAt w wr rb g r mb n F ml ws th log) (hI : GInv n ⟨ws, th.map GT.abs⟩ K) (hn : n ≤ 16) {t : Nat} (t6 : t < 6) {x : GT} (hx : th[t]? = some x) {wb lb : Nat} {lv : Value} {f : Int} {st side : Nat} {left : List Nat} (hp : x.p = .wt wb lb lv f st side left) (hlog : log.length < 10000000) :
    Calls Try.prog 89 #[ptr rb, .int .i64 t] wr fun e w' => e = .returned (.bool true) ∧ GRunTo w rb g r mb n (GS.wait ⟨ws, th.map GT.abs⟩ t x.abs) (log.length + 1) w' := by
  have hpa : x.abs.p = .wt st side left := by unfold GT.abs; simp only; rw [hp]; rfl
  obtain ⟨i1, i2, i3, i4, i5, -, -⟩ := (hI.thr t x.abs (abs_at hx)).wt _ _ _ hpa
  obtain ⟨b, rest, rfl⟩ := List.exists_cons_of_ne_nil i1
  obtain ⟨qb, l, hmu⟩ : ∃ qb l, x.mu = some (qb, l) := by
    cases hm : x.mu with
    | none => exfalso; unfold GT.abs at i5; rw [hm] at i5; simp at i5
    | some p => exact ⟨p.1, p.2, rfl⟩
  have hma : x.abs.must = l := by unfold GT.abs; rw [hmu]
  have hstep := gwstep_run h hI hn t6 hx hp (by omega)
  have hends : (wres ws t st side (b :: rest)).2.1 = 6 → ∀ (j : Nat) (z : GT) (m : Int), th[j]? = some z → l[j]? = some m → ¬ (0 < m ∧ z.abs.p.isIn = true ∧ z.sec = m) := by
    intro he j z m hz hm
    have hst : st = 0 ∨ st = 1 ∨ st = 2 ∨ st = 3 ∨ st = 4 ∨ st = 5 := by omega
    rcases hst with rfl | rfl | rfl | rfl | rfl | rfl
    · exfalso; simp only [wres] at he; split at he <;> simp at he
    · exfalso; simp only [wres] at he; simp at he
    · exfalso; simp only [wres] at he; split at he <;> simp at he
    · exfalso; simp only [wres] at he; simp at he
    · exfalso; simp only [wres] at he; split at he <;> simp at he
    · have hr : rest = [] := by
        simp only [wres] at he
        by_cases e : rest = []
        · exact e
        · rw [if_neg e] at he; simp at he
      subst hr
      exact hI.ends (abs_at hx) hpa j z.abs m (abs_at hz) (by rw [hma]; exact hm)
  have heq := wait_eq (ws := ws) (abs_at hx) hpa i2
  obtain ⟨res, hres⟩ : ∃ res, res = wres ws t st side (b :: rest) := ⟨_, rfl⟩
  rw [← hres] at hstep hends heq
  rw [heq]
  obtain ⟨c0, c1, c2, c3, c4, c5, c6⟩ := h.cells hx
  have hr : GT.raw x = ⟨.pointer none, ptr wb, .bool false, .int .i64 x.val, .int .i64 x.sec, .int .u64 x.set, gmustV x.mu⟩ := by unfold GT.raw; rw [hp]
  rw [hr] at c1
  simp only at c1
  have ST := hid hstep
  have H := hid h
  have HX := hid hx
  have HM := hid hmu
  have OK := hid hends
  have HP := hid hp
  clear h hx hmu hstep hends heq hres hI hpa hma c0 c2 c3 c4 c5 c6 hr hp i1 i2 i3 i4 i5
  obtain ⟨rws, rst, rside, rleft⟩ := res
  simp only at ST OK
  go_enter Try.func89, Try.ntmps89
  go_wp2_with fail
  refine ST.out.mono ?_
  rintro e w2 ⟨rfl, F2, log2, lb', lv', f', hr2, hl2⟩
  simp only at hr2
  have R2 := hid hr2
  have HL2 := hid hl2
  clear hr2 hl2 c1
  by_cases hd : rst = 6
  · have d1 : (rst == 6) = true := beq_iff_eq.2 hd
    have OK2 := hid (OK.out hd)
    have hgp : wgp (rws, rst, rside, rleft) = .idle := if_pos hd
    rw [d1]
    have HGP := hid hgp
    clear hd d1 OK ST hgp
    have hx2 : (th.set t { x with p := .wt wb lb' lv' f' rst rside rleft })[t]? = some { x with p := .wt wb lb' lv' f' rst rside rleft } := put_self HX.out _
    have zf := R2.out.run.free (2 + t * 7 + 1)
    have r3 := R2.out.idle hx2 rfl
    rw [List.set_set] at r3
    have c1 := (R2.out.cells hx2).2.1
    simp only [GT.raw] at c1
    obtain ⟨W, hW⟩ : ∃ W, W = w2.setCell ⟨rb, 2 + t * 7 + 1, none⟩ (.pointer none) := ⟨_, rfl⟩
    rw [← hW] at r3
    have R3 := hid r3
    have HW := hid hW
    clear hx2 r3
    go_wp2
    rw [← hW]
    have HL := hid ((R2.out.thr t { x with p := .wt wb lb' lv' f' rst rside rleft } (put_self HX.out _)).mu qb l HM.out)
    clear hW c1 zf HW R2
    go_loopw [8] (fun i wr' => ∃ k : Nat, k ≤ 6 ∧ i = .int .i64 k ∧ Hid (GRunAt w wr' rb g r mb n F2 ml rws (th.set t { x with p := .idle }) log2)) (fun i _ => 6 - (intOf i).toNat)
    case atStart => exact ⟨0, by omega, rfl, R3⟩
    case round =>
      obtain ⟨k, hk, rfl, HR⟩ := hrel
      clear R3
      have hx3 : (th.set t { x with p := GPh.idle })[t]? = some { x with p := .idle } := put_self HX.out _
      by_cases hlt : k < 6
      · obtain ⟨z, hz⟩ : ∃ z, th[k]? = some z := ⟨_, List.getElem?_eq_getElem (by have := H.out.lth; omega)⟩
        obtain ⟨hrow, hll, -⟩ := (HR.out.thr t { x with p := .idle } hx3).mu qb l HM.out
        obtain ⟨m, hm⟩ : ∃ m, l[k]? = some m := ⟨_, List.getElem?_eq_getElem (by omega)⟩
        have cm := cell_of hrow k
        rw [show (l.map (Value.int .i64)).toArray[k]? = some (.int .i64 m) by simp [hm]] at cm
        have c6 := (HR.out.cells hx3).2.2.2.2.2.2
        rw [raw_g] at c6
        rw [show ({ x with p := GPh.idle } : GT).mu = some (qb, l) from HM.out] at c6
        simp only [gmustV] at c6
        have hbad := OK2.out k z m hz hm
        obtain ⟨z', hz', e1, e2⟩ : ∃ z', (th.set t { x with p := GPh.idle })[k]? = some z' ∧ z'.abs.p.isIn = z.abs.p.isIn ∧ z'.sec = z.sec := by
          by_cases e : t = k
          · subst e
            rw [hx3]
            obtain rfl := Option.some.inj (HX.out.symm.trans hz)
            refine ⟨_, rfl, ?_, rfl⟩
            unfold GT.abs GPh.abs
            rw [HP.out]
            rfl
          · exact ⟨z, by rw [List.getElem?_set, if_neg e]; exact hz, rfl, rfl⟩
        have cz := HR.out.cells hz'
        have ci := cz.2.2.1
        have cs := cz.2.2.2.2.1
        rw [raw_c, e1] at ci
        rw [raw_e, e2] at cs
        clear cz hz hm hrow hx3 hz' e1 e2 hll
        by_cases hm0 : 0 < m
        · have d2 : decide (0 < m) = true := decide_eq_true hm0
          by_cases hin : z.abs.p.isIn = true
          · rw [hin] at ci
            have d3 : (z.sec == m) = false := beq_eq_false_iff_ne.2 (fun e => hbad ⟨hm0, hin, e⟩)
            clear hbad hin hm0
            go_wp2
            go_quiet (fail)
            go_wp2
            go_roundw
            case rel => exact ⟨k + 1, by omega, by go_num, hid (HR.out.keep ((Keep.refl Nil _).drewN nq))⟩
            case measure => simp [intOf]; omega
          · have hin' : z.abs.p.isIn = false := by simpa using hin
            rw [hin'] at ci
            clear hbad hin hin' hm0
            go_wp2
            go_quiet (fail)
            go_wp2
            go_roundw
            case rel => exact ⟨k + 1, by omega, by go_num, hid (HR.out.keep ((Keep.refl Nil _).drewN nq))⟩
            case measure => simp [intOf]; omega
        · have d2 : decide (0 < m) = false := decide_eq_false hm0
          clear hbad hm0
          go_wp2
          go_quiet (fail)
          go_wp2
          go_roundw
          case rel => exact ⟨k + 1, by omega, by go_num, hid (HR.out.keep ((Keep.refl Nil _).drewN nq))⟩
          case measure => simp [intOf]; omega
      · obtain rfl : k = 6 := by omega
        go_wp2
        go_ret
        exact ⟨rfl, F2, _, _, _, _, HR.out, by have := HL2.out; omega, by rw [HGP.out, map_set']; rfl⟩
  · have d1 : (rst == 6) = false := beq_eq_false_iff_ne.2 hd
    have hgp : wgp (rws, rst, rside, rleft) = .wt rst rside rleft := if_neg hd
    rw [d1]
    have HGP := hid hgp
    clear hd d1 OK ST hgp
    go_wp2
    go_ret
    exact ⟨rfl, F2, _, _, _, _, R2.out, by have := HL2.out; omega, by rw [HGP.out, map_set']; rfl⟩

/-! enter. -/
theorem GRunAt.frbs (h : GRunAt w wr rb g r mb n F ml ws th log) {S : Nat → Prop} {t : Nat} {x : GT} (hx : th[t]? = some x) (hk : ∀ k, S k → F k ∨ x.has k) : ¬ S rb ∧ ¬ S g ∧ ¬ S r := by
  refine ⟨fun e => ?_, fun e => ?_, fun e => ?_⟩
  · rcases hk _ e with e | e
    · exact h.frb e
    · exact (h.blk t x _ hx e).2.2.2.1 rfl
  · rcases hk _ e with e | e
    · exact h.fg e
    · exact (h.blk t x _ hx e).2.2.2.2.1 rfl
  · rcases hk _ e with e | e
    · exact h.fr e
    · exact (h.blk t x _ hx e).2.2.2.2.2 rfl
set_option maxRecDepth 100000 in
set_option maxHeartbeats 8000000 in
theorem grenter_choose (h : GRunAt w wr rb g r mb n F ml ws th log) (hI : GInv n ⟨ws, th.map GT.abs⟩ K) (hn : n ≤ 16) {t : Nat} (t6 : t < 6) {x : GT} (hx : th[t]? = some x) {eb sb : Nat} (hp : x.p = .ent eb sb none) (hlog : log.length < 10000000) :
    Calls Try.prog 88 #[ptr rb, .int .i64 t] wr fun e w' => e = .returned (.bool true) ∧ GRunTo w rb g r mb n (GS.enter n ⟨ws, th.map GT.abs⟩ t x.abs) (log.length + 1) w' := by
  have hpa : x.abs.p = .ent none := by unfold GT.abs; simp only; rw [hp]; rfl
  obtain ⟨e1, e2, e3⟩ := (h.thr t x hx).ent _ _ _ hp
  have be := h.blk t x eb hx (.inl (by rw [hp]; exact .inl rfl))
  have bs := h.blk t x sb hx (.inl (by rw [hp]; exact .inr rfl))
  obtain ⟨gv, hg2, hv⟩ := hI.gate (x.val % n) (mod_lt' hI.n0)
  have hsx := gestep_gate h.mem e1 e2 be.1 bs.1 (by omega) (by omega) (by omega) gv (by rw [show (((4 * (x.val % n) : Nat) : Int)).toNat = 4 * (x.val % n) by omega]; exact hv) (by omega)
  have heq : GS.enter n ⟨ws, th.map GT.abs⟩ t x.abs = ⟨ws, (th.set t { x with p := .ent eb sb (some (4 * (x.val % n) + 1 + gv % 2)) }).map GT.abs⟩ := by
    unfold GS.enter
    rw [hpa]
    simp only
    rw [show wat ws (4 * (x.abs.val % n)) = (gv : Int) from wat_of hv, map_set']
    rfl
  rw [heq]
  obtain ⟨c0, c1, c2, c3, c4, c5, c6⟩ := h.cells hx
  have hr : GT.raw x = ⟨ptr eb, .pointer none, .bool false, .int .i64 x.val, .int .i64 x.sec, .int .u64 x.set, gmustV x.mu⟩ := by unfold GT.raw; rw [hp]
  rw [hr] at c0
  simp only at c0
  have ST := hid hsx
  have H := hid h
  have HX := hid hx
  have HP := hid hp
  have E1 := hid e1
  have NE := hid e3
  have BE := hid be
  have BS := hid bs
  have HR := hid hr
  clear h hI hx hp hpa hsx heq hv e1 e2 e3 be bs hr c1 c2 c3 c4 c5 c6
  go_enter Try.func88, Try.ntmps88
  go_wp2_with fail
  refine ST.out.mono ?_
  rintro e w2 ⟨rfl, F2, m2, s2, k2, f2⟩
  have hnS := H.out.frbs HX.out (S := fun k => F k ∨ k = sb) (fun k e => e.elim .inl (fun e => .inr (.inl (by rw [HP.out]; exact .inr e))))
  have r2 : GRunAt w w2 rb g r mb n F2 ml ws (th.set t { x with p := .ent eb sb (some (4 * (x.val % n) + 1 + gv % 2)) }) (log ++ [⟨t, ((4 * (x.val % n) : Nat) : Int), 1, gv, gv, false⟩]) := by
    refine H.out.upd HX.out _ k2 (fun k e _ => e.elim .inl (fun e => .inr (.inr (.inr (.inl (by rw [HP.out]; exact .inr e)))))) m2 f2 (H.out.eng.keep k2 hnS.2.1 hnS.2.2) ?_ ⟨fun eb' sb' c' hc => ?_, fun _ _ hc => by simp at hc, fun _ _ _ _ _ _ _ hc => by simp at hc, fun qb l hq => ?_⟩ (fun k hk => ?_) (fun k => ?_) H.out.nd (by simp) (fun _ _ _ _ _ _ _ hc => by simp at hc)
    · rw [map_set', show GT.raw { x with p := .ent eb sb (some (4 * (x.val % n) + 1 + gv % 2)) } = GT.raw x from HR.out.symm, set_eq (by simp [HX.out])]
      exact k2.at H.out.run hnS.1
    · simp only [GPh.ent.injEq] at hc
      obtain ⟨rfl, rfl, rfl⟩ := hc
      refine ⟨k2.at E1.out (fun e => e.elim BE.out.1 (fun e => NE.out e)), ?_, NE.out⟩
      simp only
      rw [show ((4 * (x.val % n) + 1 + gv % 2 : Nat) : Int) = ((4 * (x.val % n) : Nat) : Int) + 1 + ((gv % 2 : Nat) : Int) by omega]
      exact s2
    · obtain ⟨q1, q2, q3⟩ := (H.out.thr t x HX.out).mu qb l hq
      rw [HP.out] at q3
      exact ⟨k2.at q1 (fun e => e.elim (H.out.blk t x qb HX.out (.inr ⟨l, hq⟩)).1 (fun e => q3 (.inr e))), q2, q3⟩
    · have hh : x.has k := hk.elim (fun e => .inl (by rw [HP.out]; exact e)) .inr
      exact ⟨by have := (H.out.blk t x k HX.out hh).2.2.1; have := k2.size; omega, .inl hh⟩
    · split
      · rename_i e; rw [e, H.out.look HX.out, HP.out]; rfl
      · rfl
  have R2 := hid r2
  clear m2 s2 k2 f2 hnS r2 ST c0
  go_wp2
  go_ret
  exact ⟨rfl, F2, _, _, _, _, R2.out, by simp, rfl⟩
end
end Go.Proofs.Ytihgfklajhhikaa
