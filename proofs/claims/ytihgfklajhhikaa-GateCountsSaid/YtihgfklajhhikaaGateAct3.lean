/- gate: a thread begins to wait; acts: contracts. -/
import Derived.Test.YtihgfklajhhikaaGateAct2
set_option linter.unusedVariables false
set_option linter.unusedSimpArgs false
namespace Go.Lf
theorem shr_mod' (s v : Nat) (b : Bool) (hb : s.testBit v = b) : (((s : Int) / 2 ^ v).tmod 2 == 1) = b := by
  rw [show (s : Int) / 2 ^ v = ((s / 2 ^ v : Nat) : Int) by simp, Int.tmod_eq_emod_of_nonneg (Int.natCast_nonneg _), ← hb, shift_bit]
  have : s / 2 ^ v % 2 = 0 ∨ s / 2 ^ v % 2 = 1 := by omega
  rw [Bool.eq_iff_iff, beq_iff_eq, decide_eq_true_iff]
  omega
theorem gList_zero (th : List GA) (set : Nat) : gList th set 0 = [0, 0, 0, 0, 0, 0] := by simp [gList]; rfl
theorem gList_ext {th : List GA} {set k k' : Nat} {l : List Int} (hl : l.length = 6) (h : ∀ i, i < 6 → (gList th set k)[i]? = l[i]?) : gList th set k = l := by
  apply List.ext_getElem?
  intro i
  by_cases hi : i < 6
  · exact h i hi
  · rw [List.getElem?_eq_none (by rw [gList_len]; omega), List.getElem?_eq_none (by omega)]
theorem gList_yes {th : List GA} {set : Nat} {k : Nat} {z : GA} (hk : k < 6) (hz : th[k]? = some z) (hin : z.p.isIn = true ∧ set.testBit z.val = true) : gList th set (k + 1) = (gList th set k).set k z.sec := by
  refine gList_ext (k' := 0) (by rw [List.length_set]; exact gList_len _ _ _) fun i hi => ?_
  rw [gList_at th set (k + 1) hi, List.getElem?_set, gList_at th set k hi]
  by_cases e : k = i
  · subst e
    rw [if_pos (by omega), if_pos rfl, if_pos (by rw [gList_len]; omega), hz]
    simp only [if_pos hin]
  · rw [if_neg e]
    by_cases h1 : i < k
    · rw [if_pos (by omega), if_pos h1]
    · rw [if_neg (by omega), if_neg h1]
theorem gList_no {th : List GA} {set : Nat} {k : Nat} {z : GA} (hz : th[k]? = some z) (hin : ¬ (z.p.isIn = true ∧ set.testBit z.val = true)) : gList th set (k + 1) = gList th set k := by
  refine gList_ext (k' := 0) (gList_len _ _ _) fun i hi => ?_
  rw [gList_at th set (k + 1) hi, gList_at th set k hi]
  by_cases e : k = i
  · subst e
    rw [if_pos (by omega), if_neg (by omega), hz]
    simp only [if_neg hin]
  · by_cases h1 : i < k
    · rw [if_pos (by omega), if_pos h1]
    · rw [if_neg (by omega), if_neg h1]
end Go.Lf
namespace Go.Proofs.Ytihgfklajhhikaa
open Go.RowKit Go.Lf
section
variable {w wr w' : World} {rb g r mb n : Nat} {F F' : Nat → Prop} {ml ml' : List (Int × Value)} {ws ws' : List Int} {th : List GT} {log log' : List Acc} {K : Int}
theorem GRunAt.setMust (h : GRunAt w wr rb g r mb n F ml ws th log) {t : Nat} {x : GT} (hx : th[t]? = some x) {qb : Nat} {l : List Int} (hm : x.mu = some (qb, l)) (k : Nat) (m : Int) :
    GRunAt w (wr.setCell ⟨qb, k, none⟩ (.int .i64 m)) rb g r mb n F ml ws (th.set t { x with mu := some (qb, l.set k m) }) log := by
  obtain ⟨q1, q2, q3⟩ := (h.thr t x hx).mu qb l hm
  have bq := h.blk t x qb hx (.inr ⟨l, hm⟩)
  have hk : Keep (fun k => k = qb) wr (wr.setCell ⟨qb, k, none⟩ (.int .i64 m)) := Keep.setCell (Keep.refl (fun k => k = qb) wr) (.inl rfl) _
  refine h.upd hx _ hk (fun j e _ => .inr (.inr (.inr (.inr ⟨l, e ▸ hm⟩)))) (h.mem.keep hk (fun j hF e => bq.1 (e ▸ hF))) (fun j hj => .inl hj) (h.eng.keep hk (fun e => bq.2.2.2.2.1 e.symm) (fun e => bq.2.2.2.2.2 e.symm)) ?_ ?_ (fun j hj => ?_) (fun j => ?_) h.nd (Nat.le_refl _) (fun wb lb lv f st side left hp => h.fs t x hx wb lb lv f st side left hp)
  · rw [map_set', show GT.raw { x with mu := some (qb, l.set k m) } = GT.raw x by unfold GT.raw; rw [hm]; rfl, set_eq (by simp [hx])]
    exact hk.at h.run (fun e => bq.2.2.2.1 e.symm)
  · have ho := h.thr t x hx
    have hne : ∀ j, x.p.has j → ¬ j = qb := fun j hj e => q3 (e ▸ hj)
    refine ⟨fun eb sb c hp => ?_, fun sb c hp => ?_, fun wb lb lv f st side left hp => ?_, fun qb' l' hq => ?_⟩
    · obtain ⟨h1, h2, h3⟩ := ho.ent eb sb c hp
      simp only at hp
      exact ⟨hk.at h1 (hne _ (by rw [hp]; exact .inl rfl)), hk.at h2 (hne _ (by rw [hp]; exact .inr rfl)), h3⟩
    · simp only at hp
      exact hk.at (ho.inn sb c hp) (hne _ (by rw [hp]; exact rfl))
    · simp only at hp
      obtain ⟨⟨lp, h1, h1'⟩, h2, h3, h4, h5, h6⟩ := ho.wt wb lb lv f st side left hp
      exact ⟨⟨lp, hk.at h1 (hne _ (by rw [hp]; exact .inl rfl)), h1'⟩, h2.keep hk (fun j hj => hne _ (by rw [hp]; exact .inr (.inr hj))), h3, h4, h5, fun h0 b r hl => (h6 h0 b r hl).keep hk (hne _ (by rw [hp]; exact .inr (.inl rfl)))⟩
    · simp only [Option.some.injEq, Prod.mk.injEq] at hq
      obtain ⟨rfl, rfl⟩ := hq
      refine ⟨?_, by simpa using q2, q3⟩
      rw [set_same q1]
      simp [List.map_set]
  · have hh : x.has j := by
      rcases hj with hj | ⟨l', hj⟩
      · exact .inl hj
      · simp only [Option.some.injEq, Prod.mk.injEq] at hj
        exact .inr ⟨l, by rw [← hj.1]; exact hm⟩
    exact ⟨by have := (h.blk t x j hx hh).2.2.1; have := hk.size; omega, .inl hh⟩
  · split
    · rename_i e; rw [e, h.look hx]
    · rfl
theorem make_six (w : World) : (Instr.makeSlice 39 (.int .i64 6) (.int .i64 6)).run Try.prog w = .ok (.slice (some ⟨w.heap.size, 0, none⟩) 6 6) (w.alloc (.cells #[.int .i64 0, .int .i64 0, .int .i64 0, .int .i64 0, .int .i64 0, .int .i64 0] 3)) := by kernel_rfl
theorem lvAt_block {w : World} {lv : Value} {b : Nat} {r : List Nat} (h : LvAt w lv (b :: r)) {k : Nat} (hk : lv.ownBlock = some k) : k < w.heap.size := by
  obtain ⟨a, c, rfl, hr, -⟩ := h
  rw [nums_cons] at hr
  obtain ⟨lb, off, rfl, hx, -⟩ := rd_tail hr
  simp only [Value.ownBlock, Option.some.injEq] at hk
  subst hk
  exact World.block_lt_of_cell? w _ hx
theorem wt_has {wb lb : Nat} {lv : Value} {f : Int} {st side : Nat} {left : List Nat} {k : Nat} (h : (GPh.wt wb lb lv f st side left).has k) : k = wb ∨ k = lb ∨ lv.ownBlock = some k := h
set_option maxRecDepth 100000 in
set_option maxHeartbeats 8000000 in
theorem gact_begin (h : GRunAt w wr rb g r mb n F ml ws th log) (hI : GInv n ⟨ws, th.map GT.abs⟩ K) (hn : n ≤ 16) (hK : K < 1000000000000) {t : Nat} (t6 : t < 6) {x : GT} (hx : th[t]? = some x) (hp : x.p = .idle) (what v : Int) (s : Nat) (h0 : 0 ≤ what) (hw : ¬ what % 4 < 2) (hs : s ≠ 0) (hs1 : s < 18446744073709551616) (hlog : log.length < 10000000) :
    Calls Try.prog 50 #[ptr rb, .int .i64 t, .int .u8 what, .int .i64 v, .int .u64 s] wr fun e w' => e = .returned (.bool true) ∧ GRunTo w rb g r mb n (GS.wait ⟨ws, (th.map GT.abs).set t { x.abs with p := .wt 0 0 (bkts s n), set := s, must := gList (th.map GT.abs) s 6 }⟩ t { x.abs with p := .wt 0 0 (bkts s n), set := s, must := gList (th.map GT.abs) s 6 }) (log.length + 1) w' := by
  have hpa : x.abs.p = .idle := by unfold GT.abs; simp only; rw [hp]; rfl
  have lw : ws.length = 4 * n := hI.lw
  have hsx := gwait_ok h.mem h.eng (t : Int) s (by omega) (by omega) hs hs1 (Int.le_refl 0) (by decide) hI.n0 hn (fun b hb => by
    have := (mem_bkts.1 hb).1
    unfold lckErr
    rw [if_neg (by omega), if_neg (by omega)])
  have hne := bkts_ne hs1 hs hI.n0
  have hbeg := hI.wbegin (abs_at hx) hpa hs hs1
  have HV := hid (fun (j : Nat) (z : GT) (hz : th[j]? = some z) => (hI.thr j z.abs (abs_at hz)).v)
  obtain ⟨c0, c1, c2, c3, c4, c5, c6⟩ := h.cells hx
  have hr : GT.raw x = ⟨.pointer none, .pointer none, .bool false, .int .i64 x.val, .int .i64 x.sec, .int .u64 x.set, gmustV x.mu⟩ := by unfold GT.raw; rw [hp]
  rw [hr] at c0 c1 c2
  simp only at c0 c1 c2
  have cg := h.run.top.2
  have qm := make_six
  have d1 : decide (what % 4 < 2) = false := decide_eq_false hw
  have ST := hid hsx
  have H := hid h
  have HX := hid hx
  have HP := hid hp
  have HR := hid hr
  have HB := hid hbeg
  have HNE := hid hne
  have HS1 := hid hs1
  have KX := hid (show (th.map GT.raw)[t]? = some (GT.raw x) by simp [hx])
  have HLT := hid h.lth
  clear h hI hx hp hpa hsx hbeg hr c3 c4 c5 c6 hw hs hne hs1 lw
  go_enter Try.func50, Try.ntmps50
  go_wp2_with fail
  refine ST.out.mono ?_
  rintro e w2 ⟨wb, lv, lp, rfl, hd2, hlv2, k2, z2, how, hlb⟩
  rw [if_neg HNE.out] at hd2
  obtain ⟨b0, r0, hbr⟩ := List.exists_cons_of_ne_nil HNE.out
  have VB := hid (show ∀ k, lv.ownBlock = some k → k < w2.heap.size from fun k hk => lvAt_block (hbr ▸ hlv2) hk)
  obtain ⟨lb, rfl, z2l, hwl, hvl, hlk⟩ := hlb b0 r0 hbr
  have r2 := H.out.run.keep k2 (fun h => h)
  have hkx := KX.out
  rw [HR.out] at hkx
  obtain ⟨-, dd1, -, -, -, dd5, dd6⟩ := r2.cells hkx
  simp only at dd1 dd5 dd6
  have z1 := r2.free (2 + t * 7 + 1)
  have z5 := r2.free (2 + t * 7 + 5)
  have z6 := r2.free (2 + t * 7 + 6)
  have K2 := hid k2
  have HD2 := hid hd2
  have HLV := hid hlv2
  have HOW := hid how
  have HVL := hid hvl
  have HLK := hid (show ∀ b r, bkts s n = b :: r → LockAt w2 lb mb ⟨0, 0, t, ((4 * b : Nat) : Int) + 3, true, 0⟩ from fun b r hl => by
    rw [hbr] at hl
    simp only [List.cons.injEq] at hl
    obtain ⟨rfl, rfl⟩ := hl
    rw [show ((4 * b0 : Nat) : Int) + 3 = 0 + 4 * (b0 : Int) + 3 by omega]
    exact hlk)
  have Z2 := hid (show wr.heap.size ≤ wb ∧ wr.heap.size ≤ lb ∧ wb ≠ lb ∧ lb < w2.heap.size from ⟨z2, z2l, hwl, lt_of_block hlk⟩)
  have R2 := hid r2
  have HKX := hid hkx
  have hrb := lt_of_block r2
  clear ST k2 hd2 hlv2 how hvl hlb hlk z2 z2l hwl r2 hkx c0 c1 c2 cg hbr
  go_wp2
  have hk3 : Keep Nil w2 (w2.alloc (.cells #[.int .i64 0, .int .i64 0, .int .i64 0, .int .i64 0, .int .i64 0, .int .i64 0] 3)) := (Keep.refl Nil w2).alloc _
  have r4 : GRunAt w ((((w2.alloc (.cells #[.int .i64 0, .int .i64 0, .int .i64 0, .int .i64 0, .int .i64 0, .int .i64 0] 3)).setCell ⟨rb, 2 + t * 7 + 1, none⟩ (ptr wb)).setCell ⟨rb, 2 + t * 7 + 5, none⟩ (.int .u64 s)).setCell ⟨rb, 2 + t * 7 + 6, none⟩ (.slice (some ⟨w2.heap.size, 0, none⟩) 6 6)) rb g r mb n F ml ws (th.set t { x with p := .wt wb lb lv 0 0 0 (bkts s n), set := s, mu := some (w2.heap.size, gList (th.map GT.abs) s 0) }) log := by
    have r3 := R2.out.keep hk3 (fun h => h)
    have p1 := r3.set HKX.out ⟨.pointer none, ptr wb, .bool false, .int .i64 x.val, .int .i64 x.sec, .int .u64 x.set, gmustV x.mu⟩ (j := 1) (by decide) (ptr wb) rfl
    have p2 := p1.set (put_self HKX.out _) ⟨.pointer none, ptr wb, .bool false, .int .i64 x.val, .int .i64 x.sec, .int .u64 s, gmustV x.mu⟩ (j := 5) (by decide) (.int .u64 s) rfl
    have p3 := p2.set (put_self (put_self HKX.out _) _) ⟨.pointer none, ptr wb, .bool false, .int .i64 x.val, .int .i64 x.sec, .int .u64 s, .slice (some ⟨w2.heap.size, 0, none⟩) 6 6⟩ (j := 6) (by decide) (.slice (some ⟨w2.heap.size, 0, none⟩) 6 6) rfl
    rw [List.set_set, List.set_set] at p3
    have k4 : Keep (fun k => k = rb) (w2.alloc (.cells #[.int .i64 0, .int .i64 0, .int .i64 0, .int .i64 0, .int .i64 0, .int .i64 0] 3)) ((((w2.alloc (.cells #[.int .i64 0, .int .i64 0, .int .i64 0, .int .i64 0, .int .i64 0, .int .i64 0] 3)).setCell ⟨rb, 2 + t * 7 + 1, none⟩ (ptr wb)).setCell ⟨rb, 2 + t * 7 + 5, none⟩ (.int .u64 s)).setCell ⟨rb, 2 + t * 7 + 6, none⟩ (.slice (some ⟨w2.heap.size, 0, none⟩) 6 6)) :=
      Keep.setCell (S := fun k => k = rb) (p := ⟨rb, 2 + t * 7 + 6, none⟩) (Keep.setCell (S := fun k => k = rb) (p := ⟨rb, 2 + t * 7 + 5, none⟩) (Keep.setCell (S := fun k => k = rb) (p := ⟨rb, 2 + t * 7 + 1, none⟩) (Keep.refl _ _) (.inl rfl) _) (.inl rfl) _) (.inl rfl) _
    have k5 := (K2.out.trans hk3 (fun _ _ h => h))
    have lrb := lt_of_block H.out.run
    have flt := H.out.mem.lt
    obtain ⟨y1, y2, y3, l2⟩ := Z2.out
    have l1 := lt_of_block HD2.out
    have hz5 := k5.size
    have hz4 := k4.size
    have hz2 := K2.out.size
    have za : (w2.alloc (.cells #[.int .i64 0, .int .i64 0, .int .i64 0, .int .i64 0, .int .i64 0, .int .i64 0] 3)).heap.size = w2.heap.size + 1 := by simp
    refine H.out.upd HX.out _ ((k5.mono (T := fun k => k = rb) (fun _ _ h => h.elim)).trans k4 (fun k _ e => e)) (fun k e _ => .inr (.inr (.inl e))) ((H.out.mem.keep k5 (fun _ _ h => h)).keep k4 (fun k hk e => H.out.frb (e ▸ hk))) (fun k hk => .inl hk) ((H.out.eng.keep k5 (fun h => h) (fun h => h)).keep k4 (fun e => H.out.rgr.1 e.symm) (fun e => H.out.rgr.2.1 e.symm)) ?_ ⟨fun _ _ _ hc => by simp at hc, fun _ _ hc => by simp at hc, fun wb' lb' lv' f' st' side' left' hc => ?_, fun qb l hq => ?_⟩ (fun k hk => ?_) (fun k => ?_) H.out.nd (Nat.le_refl _) (fun wb' lb' lv' f' st' side' left' hc => ?_)
    · rw [map_set']; exact p3
    · simp only [GPh.wt.injEq] at hc
      obtain ⟨rfl, rfl, rfl, rfl, rfl, rfl, rfl⟩ := hc
      refine ⟨⟨ptr lb, k4.at (hk3.at HD2.out (fun h => h)) (by omega), fun _ => rfl⟩, (HLV.out.keep hk3 (fun _ _ h => h)).keep k4 (fun k hk e => by have := (HOW.out k hk).1; omega), fun k hk => ⟨(HOW.out k hk).2, HVL.out k hk⟩, Int.le_refl 0, y3, fun _ b r hl => ((HLK.out b r hl).keep hk3 (fun h => h)).keep k4 (by omega)⟩
    · simp only [Option.some.injEq, Prod.mk.injEq] at hq
      obtain ⟨rfl, rfl⟩ := hq
      refine ⟨k4.at (by rw [gList_zero]; exact heap_alloc_new w2 _) (by omega), gList_len _ _ _, fun e => ?_⟩
      rcases wt_has e with e | e | e
      · omega
      · omega
      · have := VB.out _ e; omega
    · rcases hk with hk | ⟨l, hk⟩
      · rcases wt_has hk with e | e | e
        · exact ⟨by omega, .inr ⟨by omega, fun h => by have := flt _ h; omega⟩⟩
        · exact ⟨by omega, .inr ⟨by omega, fun h => by have := flt _ h; omega⟩⟩
        · have q1 := VB.out k e
          have q2 := (HOW.out k e).1
          exact ⟨by omega, .inr ⟨by omega, fun h => by have := flt _ h; omega⟩⟩
      · simp only [Option.some.injEq, Prod.mk.injEq] at hk
        exact ⟨by omega, .inr ⟨by omega, fun h => by have := flt _ h; omega⟩⟩
    · split
      · rename_i e; rw [e, H.out.look HX.out, HP.out]; rfl
      · rfl
    · simp only [GPh.wt.injEq] at hc
      obtain ⟨-, -, -, rfl, -⟩ := hc
      omega
  rw [World.setCell_alloc_past _ _ _ _ hrb, World.setCell_alloc_past _ _ _ _ (by simpa using hrb), World.setCell_alloc_past _ _ _ _ (by simpa using hrb)] at r4
  have R4 := hid r4
  clear r4 hk3 R2 HKX K2 HD2 HLV HOW HVL HLK Z2 VB H
  go_region_law (fail)
  all_goals
    go_wp2
    generalize w2.heap.size = qb at *
    clear z1 z5 z6 dd1 dd5 dd6 hrb
    go_loopw [18] (fun i wq => ∃ k : Nat, k ≤ 6 ∧ i = .int .i64 k ∧ Hid (GRunAt w wq rb g r mb n F ml ws (th.set t { x with p := .wt wb lb lv 0 0 0 (bkts s n), set := s, mu := some (qb, gList (th.map GT.abs) s k) }) log)) (fun i _ => 6 - (intOf i).toNat)
    case atStart => exact ⟨0, by omega, rfl, hid (R4.out.keep (Keep.refl Nil _).drew)⟩
    case round =>
      obtain ⟨k, hk, rfl, HR⟩ := hrel
      clear R4
      have hx3 : (th.set t { x with p := GPh.wt wb lb lv 0 0 0 (bkts s n), set := s, mu := some (qb, gList (th.map GT.abs) s k) })[t]? = some { x with p := .wt wb lb lv 0 0 0 (bkts s n), set := s, mu := some (qb, gList (th.map GT.abs) s k) } := put_self HX.out _
      by_cases hlt : k < 6
      · obtain ⟨z, hz⟩ : ∃ z, th[k]? = some z := ⟨_, List.getElem?_eq_getElem (by have := HLT.out; omega)⟩
        have zv1 := HV.out k z hz
        obtain ⟨hrow, hll, -⟩ := (HR.out.thr t _ hx3).mu qb _ rfl
        have c6 := (HR.out.cells hx3).2.2.2.2.2.2
        rw [raw_g] at c6
        simp only [gmustV] at c6
        obtain ⟨z', hz', e1, e2, e3⟩ : ∃ z', (th.set t { x with p := GPh.wt wb lb lv 0 0 0 (bkts s n), set := s, mu := some (qb, gList (th.map GT.abs) s k) })[k]? = some z' ∧ z'.abs.p.isIn = z.abs.p.isIn ∧ z'.sec = z.sec ∧ z'.val = z.val := by
          by_cases e : t = k
          · subst e
            rw [hx3]
            obtain rfl := Option.some.inj (HX.out.symm.trans hz)
            refine ⟨_, rfl, ?_, rfl, rfl⟩
            unfold GT.abs GPh.abs
            rw [HP.out]
            rfl
          · exact ⟨z, by rw [List.getElem?_set, if_neg e]; exact hz, rfl, rfl, rfl⟩
        have cz := HR.out.cells hz'
        have ci := cz.2.2.1
        have cv := cz.2.2.2.1
        have cs := cz.2.2.2.2.1
        rw [raw_c, e1] at ci
        rw [raw_d, e3] at cv
        rw [raw_e, e2] at cs
        have hza := abs_at hz
        obtain ⟨vn, hvn⟩ : ∃ vn, vn = z.val := ⟨_, rfl⟩
        have hv64 : vn < 64 := by rw [hvn]; exact zv1
        have hav : z.abs.val = vn := hvn.symm
        rw [← hvn] at cv
        have hwv : IntKind.u64.wrap (vn : Int) = vn := by rw [IntKind.wrap_u64]; omega
        by_cases hin' : z.abs.p.isIn = true
        · rw [hin'] at ci
          by_cases hb : s.testBit vn = true
          · have dd := shr_mod' s vn true hb
            have hu := (HR.out.keep (Keep.refl Nil _).drew).setMust hx3 rfl k z.sec
            rw [List.set_set] at hu
            simp only at hu
            rw [show (gList (th.map GT.abs) s k).set k z.sec = gList (th.map GT.abs) s (k + 1) from (gList_yes hlt hza ⟨hin', by rw [hav]; exact hb⟩).symm] at hu
            have HU := hid hu
            have zr := free_of hrow k
            have co := cell_of hrow k
            rw [show ((gList (th.map GT.abs) s k).map (Value.int .i64)).toArray[k]? = some (.int .i64 0) by simp [gList_at (th.map GT.abs) s k hlt]] at co
            clear cz hz hrow hx3 hz' e1 e2 e3 hll hin' hu hb hvn zv1 hza hav
            go_wp2
            go_still_tail 13, (by kernel_rfl)
            change wpList _ _ _ _ _ wr.drew
            go_wp2
            go_roundw
            case rel => exact ⟨k + 1, by omega, by go_num, HU⟩
            case measure => simp [intOf]; omega
          · have hb' : s.testBit vn = false := by simpa using hb
            have dd := shr_mod' s vn false hb'
            have HU := hid (show GRunAt w _ rb g r mb n F ml ws (th.set t { x with p := .wt wb lb lv 0 0 0 (bkts s n), set := s, mu := some (qb, gList (th.map GT.abs) s (k + 1)) }) log from (gList_no hza (fun h => hb (by rw [hav] at h; exact h.2))) ▸ HR.out)
            clear cz hz hrow hx3 hz' e1 e2 e3 hll hin' hb hb' hvn zv1 hza hav
            go_wp2
            go_roundw
            case rel => exact ⟨k + 1, by omega, by go_num, HU⟩
            case measure => simp [intOf]; omega
        · have hin2 : z.abs.p.isIn = false := by simpa using hin'
          rw [hin2] at ci
          have HU := hid (show GRunAt w _ rb g r mb n F ml ws (th.set t { x with p := .wt wb lb lv 0 0 0 (bkts s n), set := s, mu := some (qb, gList (th.map GT.abs) s (k + 1)) }) log from (gList_no hza (fun h => hin' h.1)) ▸ HR.out)
          clear cz hz hrow hx3 hz' e1 e2 e3 hll hin' hin2 hvn zv1 hza hav
          go_wp2
          go_roundw
          case rel => exact ⟨k + 1, by omega, by go_num, HU⟩
          case measure => simp [intOf]; omega
      · obtain rfl : k = 6 := by omega
        have hc := grwait_ok (K := K) HR.out (by rw [map_set']; exact HB.out) hn t6 hx3 rfl hlog
        rw [map_set'] at hc
        have HC := hid hc
        clear hc hx3 hlt hk
        go_wp2_with fail
        refine HC.out.mono ?_
        rintro e w5 ⟨rfl, hq⟩
        have HQ := hid hq
        clear hq HC
        go_wp2
        go_ret
        exact ⟨rfl, HQ.out⟩

/-! Any act. -/
/-- A run after K acts at most. -/
def GGood (w : World) (rb g r mb n : Nat) (K : Nat) (s : GS) (w' : World) : Prop := ∃ F ml ws th log, GRunAt w w' rb g r mb n F ml ws th log ∧ s = ⟨ws, th.map GT.abs⟩ ∧ GInv n s K ∧ log.length ≤ K
theorem GGood.keep {s : GS} {k : Nat} {w1 w2 : World} (h : GGood w rb g r mb n k s w1) (hk : Keep Nil w1 w2) : GGood w rb g r mb n k s w2 := by
  obtain ⟨F, ml, ws, th, log, h1, h2, h3, h4⟩ := h
  exact ⟨F, ml, ws, th, log, h1.keep hk, h2, h3, h4⟩
theorem GGood.own {s : GS} {k : Nat} {w1 : World} (h : GGood w rb g r mb n k s w1) : Keep Nil w w1 := by
  obtain ⟨F, ml, ws, th, log, h1, -⟩ := h
  exact h1.own.1
theorem gact_good {s : GS} {k : Nat} (h : GGood w rb g r mb n k s wr) (hn : n ≤ 16) (hK : k < 1000000) {t : Nat} (t6 : t < 6) (what : Int) (v set : Nat) (h0 : 0 ≤ what) (hv : v < 64) (hs : set ≠ 0) (hs1 : set < 18446744073709551616) :
    Calls Try.prog 50 #[ptr rb, .int .i64 t, .int .u8 what, .int .i64 v, .int .u64 set] wr fun e w' => e = .returned (.bool true) ∧ GGood w rb g r mb n (k + 1) (s.act n t what v set) w' := by
  obtain ⟨F, ml, ws, th, log, h, rfl, hI, hl⟩ := h
  have hI' := hI.act t what v set hv hs hs1
  obtain ⟨x, hx⟩ : ∃ x, th[t]? = some x := ⟨_, List.getElem?_eq_getElem (by have := h.lth; omega)⟩
  have hxa := abs_at hx
  have hto : ∀ (s' : GS) (w' : World), s' = GS.act n ⟨ws, th.map GT.abs⟩ t what v set → GRunTo w rb g r mb n s' (log.length + 1) w' → GGood w rb g r mb n (k + 1) (GS.act n ⟨ws, th.map GT.abs⟩ t what v set) w' := by
    rintro s' w' he ⟨F', ml', ws', th', log', h1, h2, h3⟩
    exact ⟨F', ml', ws', th', log', h1, he.symm.trans h3, by rw [show ((k + 1 : Nat) : Int) = (k : Int) + 1 by omega]; exact hI', by omega⟩
  have hact : GS.act n ⟨ws, th.map GT.abs⟩ t what v set = match x.abs.p with
    | .ent _ => GS.enter n ⟨ws, th.map GT.abs⟩ t x.abs
    | .wt .. => GS.wait ⟨ws, th.map GT.abs⟩ t x.abs
    | .inn c => if 1 < what % 4 then ⟨ws, th.map GT.abs⟩ else ⟨ws.set c (wat ws c - 1), (th.map GT.abs).set t { x.abs with p := .idle }⟩
    | .idle => if what % 4 < 2 then GS.enter n ⟨ws, (th.map GT.abs).set t { x.abs with p := .ent none, val := v }⟩ t { x.abs with p := .ent none, val := v }
      else GS.wait ⟨ws, (th.map GT.abs).set t { x.abs with p := .wt 0 0 (bkts set n), set := set, must := gList (th.map GT.abs) set 6 }⟩ t { x.abs with p := .wt 0 0 (bkts set n), set := set, must := gList (th.map GT.abs) set 6 } := by
    unfold GS.act
    simp only [hxa]
    rfl
  cases hp : x.p with
  | ent eb sb c =>
    have hpa : x.abs.p = .ent c := by unfold GT.abs; simp only; rw [hp]; rfl
    rw [hpa] at hact
    refine gact_en h t6 hx hp what v set ((grenter_ok h hI hn (by omega) t6 hx hp (by omega)).mono ?_)
    rintro e w' ⟨rfl, hq⟩
    exact ⟨rfl, hto _ _ hact.symm hq⟩
  | wt wb lb lv f st side left =>
    have hpa : x.abs.p = .wt st side left := by unfold GT.abs; simp only; rw [hp]; rfl
    rw [hpa] at hact
    refine gact_wait h t6 hx hp what v set ((grwait_ok h hI hn t6 hx hp (by omega)).mono ?_)
    rintro e w' ⟨rfl, hq⟩
    exact ⟨rfl, hto _ _ hact.symm hq⟩
  | inn sb c =>
    have hpa : x.abs.p = .inn c := by unfold GT.abs; simp only; rw [hp]; rfl
    rw [hpa] at hact
    simp only at hact
    by_cases hw : 1 < what % 4
    · rw [if_pos hw] at hact
      refine (gact_out h t6 hx hp what v set h0 hw).mono ?_
      rintro e w' ⟨rfl, rfl⟩
      exact ⟨rfl, F, ml, ws, th, log, h, hact, by rw [hact]; exact hI.mono (by omega), by omega⟩
    · rw [if_neg hw] at hact
      refine (gact_exit h hI t6 hx hp what v set h0 hw (by omega)).mono ?_
      rintro e w' ⟨rfl, hq⟩
      exact ⟨rfl, hto _ _ hact.symm hq⟩
  | idle =>
    have hpa : x.abs.p = .idle := by unfold GT.abs; simp only; rw [hp]; rfl
    rw [hpa] at hact
    simp only at hact
    by_cases hw : what % 4 < 2
    · rw [if_pos hw] at hact
      refine (gact_enter h hI hn (by omega) t6 hx hp what set v h0 hw hv (by omega)).mono ?_
      rintro e w' ⟨rfl, hq⟩
      exact ⟨rfl, hto _ _ hact.symm hq⟩
    · rw [if_neg hw] at hact
      refine (gact_begin h hI hn (by omega) t6 hx hp what v set h0 hw hs hs1 (by omega)).mono ?_
      rintro e w' ⟨rfl, hq⟩
      exact ⟨rfl, hto _ _ hact.symm hq⟩
end
end Go.Proofs.Ytihgfklajhhikaa
