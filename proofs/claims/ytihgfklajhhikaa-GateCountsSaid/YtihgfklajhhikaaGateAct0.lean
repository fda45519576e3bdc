/- gate: a step of a wait within the run: contract. -/
import Derived.Test.YtihgfklajhhikaaGateRun
set_option linter.unusedVariables false
set_option linter.unusedSimpArgs false
namespace Go.Lf
/-- What a step of a wait makes of the words and of it; state 6: it is over. -/
def wres (ws : List Int) (t : Nat) : Nat → Nat → List Nat → List Int × Nat × Nat × List Nat
  | 0, side, b :: rest => if wat ws (4 * b + 3) = 0 then (ws.set (4 * b + 3) ((t : Int) + 1), 1, side, b :: rest) else (ws, 0, side, b :: rest)
  | 1, _, b :: rest => (ws, 2, (wat ws (4 * b)).toNat, b :: rest)
  | 2, side, b :: rest => (ws, if wat ws (4 * b + 1 + (side + 1) % 2) = 0 then 3 else 2, side, b :: rest)
  | 3, side, b :: rest => (ws.set (4 * b) (1 - (side % 2 : Nat)), 4, side, b :: rest)
  | 4, side, b :: rest => (ws, if wat ws (4 * b + 1 + side % 2) = 0 then 5 else 4, side, b :: rest)
  | 5, side, b :: rest => (ws.set (4 * b + 3) 0, if rest = [] then 6 else 0, side, rest)
  | st, side, left => (ws, st, side, left)
def wgp (r : List Int × Nat × Nat × List Nat) : GP := if r.2.1 = 6 then .idle else .wt r.2.1 r.2.2.1 r.2.2.2
theorem wait_eq {ws : List Int} {th : List GA} {t : Nat} {x : GA} (hx : th[t]? = some x) {st side b : Nat} {rest : List Nat} (hp : x.p = .wt st side (b :: rest)) (hst : st ≤ 5) :
    GS.wait ⟨ws, th⟩ t x = ⟨(wres ws t st side (b :: rest)).1, th.set t { x with p := wgp (wres ws t st side (b :: rest)) }⟩ := by
  have hs : ∀ y : GP, y = x.p → th.set t { x with p := y } = th := fun y hy => by subst hy; exact set_eq hx
  have : st = 0 ∨ st = 1 ∨ st = 2 ∨ st = 3 ∨ st = 4 ∨ st = 5 := by omega
  unfold GS.wait
  rw [hp]
  rcases this with rfl | rfl | rfl | rfl | rfl | rfl
  · simp only [wres]
    split
    · rfl
    · rw [hs _ (by rw [hp]; rfl)]
  · rfl
  · simp only [wres]
    split
    · rfl
    · rw [hs _ (by rw [hp]; rfl)]
  · rfl
  · simp only [wres]
    split
    · rfl
    · rw [hs _ (by rw [hp]; rfl)]
  · simp only [wres, wgp]
    by_cases e : rest = []
    · rw [if_pos e, if_pos e, if_pos rfl]
    · rw [if_neg e, if_neg e, if_neg (by decide)]
end Go.Lf
namespace Go.Proofs.Ytihgfklajhhikaa
open Go.RowKit Go.Lf
section
variable {w wr w' : World} {rb g r mb n : Nat} {F F' : Nat → Prop} {ml ml' : List (Int × Value)} {ws ws' : List Int} {th : List GT} {log log' : List Acc} {K : Int}
def GWsTo (w : World) (rb g r mb n : Nat) (th : List GT) (t : Nat) (x : GT) (wb : Nat) (ml : List (Int × Value)) (res : List Int × Nat × Nat × List Nat) (m : Nat) (w' : World) : Prop :=
  ∃ F' log' lb' lv' f', GRunAt w w' rb g r mb n F' ml res.1 (th.set t { x with p := .wt wb lb' lv' f' res.2.1 res.2.2.1 res.2.2.2 }) log' ∧ log'.length = m
theorem GRunAt.wfin (h : GRunAt w wr rb g r mb n F ml ws th log) {t : Nat} {x : GT} (hx : th[t]? = some x) {wb lb : Nat} {lv : Value} {f : Int} {st side : Nat} {left : List Nat} (hp : x.p = .wt wb lb lv f st side left)
    {w1 : World} (kk : Keep (fun k => F k ∨ k = lb ∨ k = wb) wr w1) (m1 : MemAt w1 mb F' ws' log') (ff : Foot wr F F') (lb' : Nat) (lv' lp' : Value) (f' : Int) (st0 st' side' : Nat) (left' : List Nat)
    (hd : GHead w1 wb g t lv' lp' side' st0) (hk1 : Keep (fun k => k = wb) w1 w') (turn : ∀ lv lp side st0, GHead w1 wb g t lv lp side st0 → GHead w' wb g t lv lp side st') (hlp : left' ≠ [] → lp' = ptr lb') (hlv : LvAt w1 lv' left') (how : ∀ k, lv'.ownBlock = some k → lv.ownBlock = some k)
    (hlb : lb' = lb ∨ (wr.heap.size ≤ lb' ∧ ¬ F' lb' ∧ lb' < w1.heap.size)) (hf0 : 0 ≤ f') (hf1 : f' ≤ log'.length) (hlog : log.length ≤ log'.length)
    (hlk : st' = 0 → ∀ b r, left' = b :: r → LockAt w1 lb' mb ⟨f', 0, t, ((4 * b : Nat) : Int) + 3, true, 0⟩) :
    GRunAt w w' rb g r mb n F' ml ws' (th.set t { x with p := .wt wb lb' lv' f' st' side' left' }) log' := by
  obtain ⟨hlp0, h2, h3, h4, h5, h6⟩ := (h.thr t x hx).wt _ _ _ _ _ _ _ hp
  have bw := h.blk t x wb hx (.inl (by rw [hp]; exact .inl rfl))
  have nF' : ¬ F' wb := fun e => (ff wb e).elim bw.1 (fun h => by have := bw.2.2.1; omega)
  have nlb : lb' ≠ wb := by
    rcases hlb with e | ⟨e1, -, -⟩
    · rw [e]; exact fun h => h5 h.symm
    · have := bw.2.2.1; omega
  refine h.wstep hx hp (kk.trans hk1 (fun k _ e => .inr (.inr e))) (fun k hk _ => by rcases hk with e | e | e; exact .inl e; exact .inr (.inr e); exact .inr (.inl e)) (m1.keep hk1 (fun k hk e => nF' (e ▸ hk))) ff lb' lv' lp' f' st' side' left' (turn _ _ _ _ hd) hlp
    (hlv.keep hk1 (fun k hk => (h3 k (how k hk)).1)) how ?_ hf0 hf1 hlog (fun h0 b r hl => (hlk h0 b r hl).keep hk1 nlb)
  rcases hlb with e | ⟨e1, e2, e3⟩
  · exact .inl e
  · exact .inr ⟨e1, e2, by have := hk1.size; omega⟩
theorem abs_at {th : List GT} {t : Nat} {x : GT} (hx : th[t]? = some x) : (th.map GT.abs)[t]? = some x.abs := by simp [hx]
set_option maxHeartbeats 2000000 in
theorem gwstep_run (h : GRunAt w wr rb g r mb n F ml ws th log) (hI : GInv n ⟨ws, th.map GT.abs⟩ K) (hn : n ≤ 16) {t : Nat} (t6 : t < 6) {x : GT} (hx : th[t]? = some x) {wb lb : Nat} {lv : Value} {f : Int} {st side b : Nat} {rest : List Nat} (hp : x.p = .wt wb lb lv f st side (b :: rest)) (hlog : log.length < 100000000) :
    Calls Try.prog 57 #[ptr wb] wr fun e w' => e = .returned (.tuple #[.int .u8 (gpc st), .bool ((wres ws t st side (b :: rest)).2.1 == 6)]) ∧ GWsTo w rb g r mb n th t x wb ml (wres ws t st side (b :: rest)) (log.length + 1) w' := by
  obtain ⟨⟨lp, hd, hlp⟩, h2, h3, h4, h5, h6⟩ := (h.thr t x hx).wt _ _ _ _ _ _ _ hp
  obtain rfl := hlp (by simp)
  have hpa : x.abs.p = .wt st side (b :: rest) := by unfold GT.abs; simp only; rw [hp]; rfl
  obtain ⟨-, i2, i3, i4, -, -, -⟩ := (hI.thr t x.abs (abs_at hx)).wt _ _ _ hpa
  have hbn := i4 b (List.mem_cons_self ..)
  have lw : ws.length = 4 * n := hI.lw
  have bw := h.blk t x wb hx (.inl (by rw [hp]; exact .inl rfl))
  have bl := h.blk t x lb hx (.inl (by rw [hp]; exact .inr (.inl rfl)))
  have hfs := h.fs t x hx _ _ _ _ _ _ _ hp
  obtain ⟨a, c, rfl, hr, hcap⟩ := h2
  have hst : st = 0 ∨ st = 1 ∨ st = 2 ∨ st = 3 ∨ st = 4 ∨ st = 5 := by omega
  have e0 : ((0 : Int) + 4 * (b : Int)).toNat = 4 * b := by omega
  have e3 : ((0 : Int) + 4 * (b : Int) + 3).toNat = 4 * b + 3 := by omega
  have lvk : ∀ {w1 : World}, Keep (fun k => F k ∨ k = wb ∨ k = lb) wr w1 → LvAt w1 (.slice a (rest.length + 1) c) (b :: rest) := fun hk => LvAt.keep (l := b :: rest) ⟨a, c, rfl, hr, hcap⟩ hk (fun k hk e => by
    have := h.blk t x k hx (.inl (by rw [hp]; exact .inr (.inr hk)))
    rcases e with e | e | e
    · exact this.1 e
    · exact (h3 k hk).1 e
    · exact (h3 k hk).2 e)
  have hw := hd
  rcases hst with rfl | rfl | rfl | rfl | rfl | rfl
  · -- locks
    have hl := h6 rfl b rest rfl
    obtain ⟨v, hv⟩ : ∃ v, ws[4 * b + 3]? = some v := ⟨_, List.getElem?_eq_getElem (by omega)⟩
    have e3' : (((4 * b : Nat) : Int) + 3).toNat = 4 * b + 3 := by omega
    have hc := glocks_any h.mem hd _ hl rfl bw.1 bl.1 (by simp only; omega) (by simp only; omega) (by simp only; omega) v (by simp only; rw [e3']; exact hv) (by simp only; omega) (by simp only; omega) rfl (by omega)
    simp only [e3'] at hc
    have hw := wat_of hv
    by_cases hz : v = 0
    · simp only [if_pos hz] at hc
      rw [show wres ws t 0 side (b :: rest) = (ws.set (4 * b + 3) ((t : Int) + 1), 1, side, b :: rest) by simp only [wres]; rw [hw, if_pos hz]]
      refine (gwstep0 hd 1 (fun w1 hq => ?_) (by decide) hc).mono ?_
      · obtain ⟨F2, -, q, -⟩ := hq; exact ⟨_, _, _, _, q⟩
      · rintro e w2 ⟨rfl, w1, ⟨F2, m1, q1, q2, q3, q4⟩, k1, tn⟩
        refine ⟨rfl, F2, _, lb, _, f, h.wfin hx hp (q3.mono (fun k _ e => e.elim .inl (fun e => .inr (.inl e)))) m1 q4 lb _ _ f 0 1 side (b :: rest) q1 k1 tn (fun _ => rfl) ?_ (fun _ h => h) (.inl rfl) h4 (by simp; omega) (by simp) (fun h => by omega), by simp⟩
        exact lvk (q3.mono (fun k _ e => e.elim .inl (fun e => .inr (.inr e))))
    · simp only [if_neg hz] at hc
      rw [show wres ws t 0 side (b :: rest) = (ws, 0, side, b :: rest) by simp only [wres]; rw [hw, if_neg hz]]
      refine (gwstep0 hd 0 (fun w1 hq => ?_) (by decide) hc).mono ?_
      · obtain ⟨F2, -, q, -⟩ := hq; exact ⟨_, _, _, _, q⟩
      · rintro e w2 ⟨rfl, w1, ⟨F2, m1, q1, q2, q3, q4⟩, k1, tn⟩
        refine ⟨rfl, F2, _, lb, _, f + 1, h.wfin hx hp (q3.mono (fun k _ e => e.elim .inl (fun e => .inr (.inl e)))) m1 q4 lb _ _ (f + 1) 0 0 side (b :: rest) q1 k1 tn (fun _ => rfl) ?_ (fun _ h => h) (.inl rfl) (by omega) (by simp; omega) (by simp) (fun _ b' r' hl' => ?_), by simp⟩
        · exact lvk (q3.mono (fun k _ e => e.elim .inl (fun e => .inr (.inr e))))
        · simp only [List.cons.injEq] at hl'
          obtain ⟨rfl, rfl⟩ := hl'
          exact q2
  · -- looks
    obtain ⟨gv, hg2, hv⟩ := hI.gate b hbn
    have hc := glooks_ok (r := r) (n := n) h.mem hd h.eng.head hr h.fg bw.1 (Int.le_refl 0) (by decide) (by omega) (by omega) (by omega) (gv : Int) (by rw [e0]; exact hv) (by omega)
    rw [show wres ws t 1 side (b :: rest) = (ws, 2, gv, b :: rest) by simp only [wres]; rw [wat_of hv]; rfl]
    refine (gwstep1 hd 2 (fun w1 hq => ?_) (by decide) hc).mono ?_
    · obtain ⟨F2, -, q, -⟩ := hq; exact ⟨_, _, _, _, q⟩
    · rintro e w2 ⟨rfl, w1, ⟨F2, m1, q1, q3, q4⟩, k1, tn⟩
      exact ⟨rfl, F2, _, lb, _, f, h.wfin hx hp (q3.mono (fun k _ e => e.elim .inl (fun e => .inr (.inr e)))) m1 q4 lb _ _ f 1 2 gv (b :: rest) q1 k1 tn (fun _ => rfl) (lvk (q3.mono (fun k _ e => e.elim .inl (fun e => .inr (.inl e))))) (fun _ h => h) (.inl rfl) h4 (by simp; omega) (by simp) (fun h => by omega), by simp⟩
  · -- drainsOther
    obtain ⟨v, hv⟩ : ∃ v, ws[4 * b + 1 + (side + 1) % 2]? = some v := ⟨_, List.getElem?_eq_getElem (by omega)⟩
    have hc := gdrainsO_ok (r := r) (n := n) h.mem hd h.eng.head hr h.fg bw.1 (Int.le_refl 0) (by decide) (by omega) (by omega) (by omega) side rfl (by omega) v (by rw [show ((0 : Int) + 4 * (b : Int) + 1 + (((side + 1) % 2 : Nat) : Int)).toNat = 4 * b + 1 + (side + 1) % 2 by omega]; exact hv) (by omega)
    have hw3 := wat_of hv
    by_cases hz : v = 0
    · simp only [if_pos hz] at hc
      rw [show wres ws t 2 side (b :: rest) = (ws, 3, side, b :: rest) by simp only [wres]; rw [hw3, if_pos hz]]
      refine (gwstep2 hd 3 (fun w1 hq => ?_) (by decide) hc).mono ?_
      · obtain ⟨F2, -, q, -⟩ := hq; exact ⟨_, _, _, _, q⟩
      · rintro e w2 ⟨rfl, w1, ⟨F2, m1, q1, q3, q4⟩, k1, tn⟩
        exact ⟨rfl, F2, _, lb, _, f, h.wfin hx hp (q3.mono (fun k _ e => e.elim .inl (fun e => .inr (.inr e)))) m1 q4 lb _ _ f 2 3 side (b :: rest) q1 k1 tn (fun _ => rfl) (lvk (q3.mono (fun k _ e => e.elim .inl (fun e => .inr (.inl e))))) (fun _ h => h) (.inl rfl) h4 (by simp; omega) (by simp) (fun h => by omega), by simp⟩
    · simp only [if_neg hz] at hc
      rw [show wres ws t 2 side (b :: rest) = (ws, 2, side, b :: rest) by simp only [wres]; rw [hw3, if_neg hz]]
      refine (gwstep2 hd 2 (fun w1 hq => ?_) (by decide) hc).mono ?_
      · obtain ⟨F2, -, q, -⟩ := hq; exact ⟨_, _, _, _, q⟩
      · rintro e w2 ⟨rfl, w1, ⟨F2, m1, q1, q3, q4⟩, k1, tn⟩
        exact ⟨rfl, F2, _, lb, _, f, h.wfin hx hp (q3.mono (fun k _ e => e.elim .inl (fun e => .inr (.inr e)))) m1 q4 lb _ _ f 2 2 side (b :: rest) q1 k1 tn (fun _ => rfl) (lvk (q3.mono (fun k _ e => e.elim .inl (fun e => .inr (.inl e))))) (fun _ h => h) (.inl rfl) h4 (by simp; omega) (by simp) (fun h => by omega), by simp⟩
  · -- flips
    obtain ⟨gv, hg2, hv⟩ := hI.gate b hbn
    have hc := gflips_ok (r := r) (n := n) h.mem hd h.eng.head hr h.fg bw.1 (Int.le_refl 0) (by decide) (by omega) (by omega) (by omega) side rfl (by omega) (gv : Int) (by rw [e0]; exact hv) (by omega)
    rw [e0] at hc
    rw [show wres ws t 3 side (b :: rest) = (ws.set (4 * b) ((1 - side % 2 : Nat) : Int), 4, side, b :: rest) by simp only [wres]; rw [show (1 - ((side % 2 : Nat) : Int)) = ((1 - side % 2 : Nat) : Int) by omega]]
    refine (gwstep3 hd 4 (fun w1 hq => ?_) (by decide) hc).mono ?_
    · obtain ⟨F2, -, q, -⟩ := hq; exact ⟨_, _, _, _, q⟩
    · rintro e w2 ⟨rfl, w1, ⟨F2, m1, q1, q3, q4⟩, k1, tn⟩
      exact ⟨rfl, F2, _, lb, _, f, h.wfin hx hp (q3.mono (fun k _ e => e.elim .inl (fun e => .inr (.inr e)))) m1 q4 lb _ _ f 3 4 side (b :: rest) q1 k1 tn (fun _ => rfl) (lvk (q3.mono (fun k _ e => e.elim .inl (fun e => .inr (.inl e))))) (fun _ h => h) (.inl rfl) h4 (by simp; omega) (by simp) (fun h => by omega), by simp⟩
  · -- drains
    obtain ⟨v, hv⟩ : ∃ v, ws[4 * b + 1 + side % 2]? = some v := ⟨_, List.getElem?_eq_getElem (by omega)⟩
    have hc := gdrains_ok (r := r) (n := n) h.mem hd h.eng.head hr h.fg bw.1 (Int.le_refl 0) (by decide) (by omega) (by omega) (by omega) side rfl (by omega) v (by rw [show ((0 : Int) + 4 * (b : Int) + 1 + (((side) % 2 : Nat) : Int)).toNat = 4 * b + 1 + side % 2 by omega]; exact hv) (by omega)
    have hw3 := wat_of hv
    by_cases hz : v = 0
    · simp only [if_pos hz] at hc
      rw [show wres ws t 4 side (b :: rest) = (ws, 5, side, b :: rest) by simp only [wres]; rw [hw3, if_pos hz]]
      refine (gwstep4 hd 5 (fun w1 hq => ?_) (by decide) hc).mono ?_
      · obtain ⟨F2, -, q, -⟩ := hq; exact ⟨_, _, _, _, q⟩
      · rintro e w2 ⟨rfl, w1, ⟨F2, m1, q1, q3, q4⟩, k1, tn⟩
        exact ⟨rfl, F2, _, lb, _, f, h.wfin hx hp (q3.mono (fun k _ e => e.elim .inl (fun e => .inr (.inr e)))) m1 q4 lb _ _ f 4 5 side (b :: rest) q1 k1 tn (fun _ => rfl) (lvk (q3.mono (fun k _ e => e.elim .inl (fun e => .inr (.inl e))))) (fun _ h => h) (.inl rfl) h4 (by simp; omega) (by simp) (fun h => by omega), by simp⟩
    · simp only [if_neg hz] at hc
      rw [show wres ws t 4 side (b :: rest) = (ws, 4, side, b :: rest) by simp only [wres]; rw [hw3, if_neg hz]]
      refine (gwstep4 hd 4 (fun w1 hq => ?_) (by decide) hc).mono ?_
      · obtain ⟨F2, -, q, -⟩ := hq; exact ⟨_, _, _, _, q⟩
      · rintro e w2 ⟨rfl, w1, ⟨F2, m1, q1, q3, q4⟩, k1, tn⟩
        exact ⟨rfl, F2, _, lb, _, f, h.wfin hx hp (q3.mono (fun k _ e => e.elim .inl (fun e => .inr (.inr e)))) m1 q4 lb _ _ f 4 4 side (b :: rest) q1 k1 tn (fun _ => rfl) (lvk (q3.mono (fun k _ e => e.elim .inl (fun e => .inr (.inl e))))) (fun _ h => h) (.inl rfl) h4 (by simp; omega) (by simp) (fun h => by omega), by simp⟩
  · -- unlocks
    obtain ⟨g1, -⟩ := hI.lat.has (abs_at hx) hbn (by rw [hpa]; simp [GP.holds])
    have le : ∀ b' : Nat, b' < n → lckErr (t : Int) (0 + 4 * (b' : Int) + 3) 0 ws.length = 0 := fun b' hb' => by
      unfold lckErr
      rw [if_neg (by omega), if_neg (by omega)]
    have hc := gunlocks_ok (r := r) (n := n) h.mem hd h.eng.head hr h.fg bw.1 (Int.le_refl 0) (by decide) (by omega) (by omega) (by omega) hcap (fun k hk => ⟨(h.blk t x k hx (.inl (by rw [hp]; exact .inr (.inr hk)))).1, (h3 k hk).1⟩) (fun b' hb' => ⟨by have := i4 b' (List.mem_cons_of_mem _ hb'); omega, le b' (i4 b' (List.mem_cons_of_mem _ hb'))⟩) (le b hbn) (by rw [e3]; exact g1) (by omega)
    rw [e3] at hc
    refine (gwstep5 hd (if rest = [] then 6 else 0) (fun w1 hq => ?_) (by split <;> decide) hc).mono ?_
    · obtain ⟨F2, lv', lp', -, q, -⟩ := hq; exact ⟨_, _, _, _, q⟩
    · rintro e w2 ⟨rfl, w1, ⟨F2, lv', lp', m1, q1, q2, q5, q3, q4, q6⟩, k1, tn⟩
      refine ⟨rfl, ?_⟩
      cases rest with
      | nil =>
        exact ⟨F2, _, lb, _, f, h.wfin hx hp (q3.mono (fun k _ e => e.elim .inl (fun e => .inr (.inr e)))) m1 q4 lb _ _ f 5 _ side [] q1 k1 tn (fun h => absurd rfl h) q2 q5 (.inl rfl) h4 (by simp; omega) (by simp) (fun _ b' r' hl => by cases hl), by simp⟩
      | cons b' r' =>
        obtain ⟨lb', z1, z2, z3, z4⟩ := q6 b' r' rfl
        exact ⟨F2, _, lb', _, 0, h.wfin hx hp (q3.mono (fun k _ e => e.elim .inl (fun e => .inr (.inr e)))) m1 q4 lb' _ _ 0 5 _ side (b' :: r') q1 k1 tn (fun _ => z1) q2 q5 (.inr ⟨z2, z4, lt_of_block z3⟩) (Int.le_refl 0) (by simp; omega) (by simp) (fun _ b'' r'' hl => by
          simp only [List.cons.injEq] at hl
          obtain ⟨rfl, rfl⟩ := hl
          rw [show ((4 * b' : Nat) : Int) + 3 = 0 + 4 * (b' : Int) + 3 by omega]
          exact z3), by simp⟩
end
end Go.Proofs.Ytihgfklajhhikaa
