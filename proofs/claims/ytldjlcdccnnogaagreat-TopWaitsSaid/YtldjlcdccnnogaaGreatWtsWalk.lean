/- TopWaits: the walk. -/
import Derived.Test.YtldjlcdccnnogaaGreatMade
import Derived.Test.YtldjlcdccnnogaaGreatMgSt
set_option linter.unusedVariables false
set_option linter.unusedSimpArgs false
namespace Go.Proofs.YtldjlcdccnnogaaGreat
open Go.RowKit Go.Lf
theorem RigsArg.keep {w w' : World} {z : RigsV} (h : RigsArg w z) (hk : Keep Nil w w') : RigsArg w' z :=
  ⟨h.k, h.b, rd_keep h.rp hk (fun _ _ e => e), fun y hy => ⟨rd_keep (h.ps y hy).rd hk (fun _ _ e => e), (h.ps y hy).ops⟩, rd_keep h.rk hk (fun _ _ e => e), h.pk⟩
theorem i64s_snoc (l : List Int) (x : Int) : i64s (l ++ [x]) = i64s l ++ [.int .i64 x] := by simp [i64s]
/-- The engine's bounds are those of stall. -/
theorem eng_fn {n nb : Nat} {kd : Int} {E : PrW n} (h : EngIs nb E) (hk : E.kind = kd) : E.conc = concP kd nb ∧ E.bnd = bndP kd n nb := by
  rcases h with ⟨h1, h2, h3⟩ | ⟨h1, h2, h3⟩ | ⟨h1, h2, h3⟩
  · obtain rfl : kd = 1 := by omega
    exact ⟨by funext s v; rw [h3]; rfl, by funext s; rw [h2]; rfl⟩
  · obtain rfl : kd = 2 := by omega
    exact ⟨by funext s v; rw [h3]; rfl, by funext s; rw [h2]; rfl⟩
  · obtain rfl : kd = 3 := by omega
    exact ⟨by funext s v; rw [h3]; rfl, by funext s; rw [h2]; rfl⟩
/-- A rig between two picks beside the threads so far, made since w. -/
structure RWho {n : Nat} (E : PrW n) (C : RgC) (w wz : World) (s : RgS) (i : Nat) (who : List Int) (u : Value) : Prop where
  lie : ∃ A, (RigL E C).lie wz A s ∧ (∀ k, A k → w.heap.size ≤ k) ∧ ∀ k, u.ownBlock = some k → ¬ A k
  kp : Keep Nil w wz
  g : RgG n E.bnd s
  st : s.st = i
  row : wz.ownsRow 0 3 1 u who.length (i64s who)
  own : ∀ k, u.ownBlock = some k → w.heap.size ≤ k ∧ k < wz.heap.size
section
variable {n : Nat} {E : PrW n} {C : RgC} {w wz wz' : World} {s : RgS} {i : Nat} {who : List Int} {u : Value}
theorem RWho.quiet (h : RWho E C w wz s i who u) (hk : Keep Nil wz wz') : RWho E C w wz' s i who u := by
  obtain ⟨A, h1, h2, h3⟩ := h.lie
  exact ⟨⟨A, (RigL E C).keep h1 hk (fun _ _ e => e), h2, h3⟩, h.kp.trans hk (fun _ _ e => e), h.g, h.st, row_keep h.row hk (fun _ _ e => e), fun k hk' => ⟨(h.own k hk').1, Nat.lt_of_lt_of_le (h.own k hk').2 hk.size⟩⟩
/-- A pick of a rig, as the laws see it. -/
theorem rwho_pick (h : RWho E C w wz s i who u) (hn0 : 1 ≤ n) (hn : n ≤ 6) (hi : i ≤ 400) {p : Int} (b0 : -9223372036854775808 ≤ p) (b1 : p ≤ 9223372036854775807) :
    Calls Tryz.prog 7 #[pb C.m, .int .i64 p] wz fun e w' => ∃ (k : Nat) (pc : Int) (ac tk d : Bool) (s2 : RgS), e = .returned (.tuple #[.agg #[.int .i64 k, .int .u8 pc, .bool ac, .bool tk, .bool d], .int .i64 0]) ∧ k < n ∧ RWho E C w w' s2 (i + 1) who u ∧ PkR n E.bnd E.conc k s s2 pc := by
  obtain ⟨A, h1, h2, h3⟩ := h.lie
  have hp0 := Int.emod_nonneg p (show (n : Int) ≠ 0 by omega)
  have hp1 := Int.emod_lt_of_pos p (show (0 : Int) < (n : Int) by omega)
  refine (rpickL h1 h.g hn (by have := h.st; omega) b0 b1 (k := (p % n).toNat) (by omega) (by omega)).mono ?_
  rintro e w' ⟨pc, ac, tk, d, s2, rfl, g2, st2, pk, A2, l2, k2, f2⟩
  have hz := h.kp.size
  exact ⟨_, pc, ac, tk, d, s2, rfl, by omega, ⟨⟨A2, l2, fun k hk => (f2 k hk).elim (h2 k) (fun e => by omega), fun k hk ha => (f2 k ha).elim (h3 k hk) (fun e => by have := (h.own k hk).2; omega)⟩, h.kp.trans k2 (fun j hj e => by have := h2 j e; omega), g2, by rw [st2, h.st], row_keep h.row k2 h3, fun k hk => ⟨(h.own k hk).1, Nat.lt_of_lt_of_le (h.own k hk).2 k2.size⟩⟩, pk⟩
theorem rwho_events (h : RWho E C w wz s i who u) (hi : i ≤ 400) : Calls Tryz.prog 9 #[pb C.m] wz (EvsTo wz s.l) := by
  obtain ⟨A, ⟨A0, arr, ev, h1, -⟩, -⟩ := h.lie
  exact events_ok h1 (by have := h.g.len; have := h.st; omega)
/-- A thread more. -/
theorem rwho_app (h : RWho E C w wz s i who u) {t : Int} {u' : Value} (ho : wz'.ownsRow 0 3 1 u' (who.length + 1) (i64s who ++ [.int .i64 t])) (hg : wz.grownBy wz' u.ownBlock) (hs : RowStep wz u u') : RWho E C w wz' s i (who ++ [t]) u' := by
  obtain ⟨A, h1, h2, h3⟩ := h.lie
  have kS : Keep (fun k => u.ownBlock = some k) wz wz' := Keep.grown (Keep.refl _ _) hg (fun k e => .inl e)
  have kN : Keep Nil w wz' := h.kp.trans kS (fun k hk e => by have := (h.own k e).1; omega)
  have h1' := (RigL E C).keep h1 kS (fun k ha e => h3 k e ha)
  refine ⟨⟨A, h1', h2, fun k hk ha => ?_⟩, kN, h.g, h.st, by rw [List.length_append, i64s_snoc]; exact ho, fun k hk => ?_⟩
  · rcases hs k hk with e | e
    · exact h3 k e ha
    · have := (RigL E C).lt h1 k ha; omega
  · have hlt : k < wz'.heap.size := by
      rcases ho.2 with ⟨rfl, -⟩ | ⟨g, cap, cur, rfl, -, hgr, -⟩
      · simp [Value.ownBlock] at hk
      · simp only [Value.ownBlock, Option.some.injEq] at hk
        subst hk
        exact lt_of_block hgr
    rcases hs k hk with e | e
    · exact ⟨(h.own k e).1, hlt⟩
    · exact ⟨Nat.le_trans h.kp.size e, hlt⟩
end
set_option maxRecDepth 100000 in
set_option maxHeartbeats 4000000 in
theorem walk_twaits (w : World) (z : RigsV) (hz : RigsArg w z) : Calls Tryz.prog 4 #[z.val] w fun e w' => e = .returned (.bool true) ∧ Keep Nil w w' := by
  obtain ⟨pa, pc, hv, -⟩ := id hz.rp
  obtain ⟨ka, kc, hv2, -⟩ := id hz.rk
  obtain ⟨kind, bk, pv, ps, kv, picks⟩ := z
  simp only at hv hv2
  subst hv hv2
  obtain ⟨W1, hW1⟩ : ∃ W1, W1 = w.alloc (.cells #[.int .u8 kind, .int .u8 bk, .slice pa ps.length pc, .slice ka picks.length kc] 25 (0, 0)) := ⟨_, rfl⟩
  have k1 : Keep Nil w W1 := by rw [hW1]; exact (Keep.refl _ _).alloc _
  have o1 : W1.heap[w.heap.size]? = some (.cells #[.int .u8 kind, .int .u8 bk, .slice pa ps.length pc, .slice ka picks.length kc] 25 (0, 0)) := by rw [hW1]; exact heap_alloc_new _ _
  have hz1 := hz.keep k1
  have HSH := hid (show Calls Tryz.prog 5 #[.agg #[.int .u8 kind, .int .u8 bk, .slice pa ps.length pc, .slice ka picks.length kc], .int .i64 150] W1 fun e w' => e = .returned (.bool (rShort ⟨kind, bk, .slice pa ps.length pc, ps, .slice ka picks.length kc, picks⟩ 150)) ∧ Keep Nil W1 w' from short_any _ hz1 150 (by decide))
  have x0 : W1.cell? ⟨w.heap.size, 0, none⟩ = some (.int .u8 kind) := by rw [cell_of o1]; rfl
  have x1 : W1.cell? ⟨w.heap.size, 1, none⟩ = some (.int .u8 bk) := by rw [cell_of o1]; rfl
  have x2 : W1.cell? ⟨w.heap.size, 2, none⟩ = some (.slice pa ps.length pc) := by rw [cell_of o1]; rfl
  have x3 : W1.cell? ⟨w.heap.size, 3, none⟩ = some (.slice ka picks.length kc) := by rw [cell_of o1]; rfl
  have HK1 := hid k1
  have HZ1 := hid hz1
  have X3 := hid x3
  unfold RigsV.val
  simp only
  cases hsh : rShort ⟨kind, bk, .slice pa ps.length pc, ps, .slice ka picks.length kc, picks⟩ 150 with
  | false =>
    rw [hsh] at HSH
    clear hz k1 o1 hz1
    subst hW1
    go_enter Tryz.func4, Tryz.ntmps4
    go_wp2_with fail
    refine HSH.out.mono ?_
    rintro e w' ⟨rfl, hk⟩
    go_wp2
    go_ret
    exact ⟨rfl, HK1.out.trans hk (fun _ _ e => e)⟩
  | true =>
    rw [hsh] at HSH
    have hshq := hsh
    unfold rShort at hshq
    simp only [Bool.and_eq_true, decide_eq_true_eq] at hshq
    obtain ⟨⟨n0, n6, m150⟩, -⟩ := hshq
    have HMD := hid (fun (w2 : World) (hk : Keep Nil W1 w2) => (show Calls Tryz.prog 6 #[.agg #[.int .u8 kind, .int .u8 bk, .slice pa ps.length pc, .slice ka picks.length kc]] w2 (MadeTo w2 ps.length) from made_ok _ (HZ1.out.keep hk) 150 hsh))
    clear hz o1 hz1 hsh
    subst hW1
    go_enter Tryz.func4, Tryz.ntmps4
    go_wp2_with fail
    refine HSH.out.mono ?_
    rintro e w2 ⟨rfl, hk2⟩
    have y0 := hk2.cell x0 (fun e => e)
    have y1 := hk2.cell x1 (fun e => e)
    have y2 := hk2.cell x2 (fun e => e)
    have y3 := hk2.cell x3 (fun e => e)
    have HM := hid (HMD.out w2 hk2)
    have HRK := hid (rd_keep HZ1.out.rk hk2 (fun _ _ e => e))
    have HPK := hid HZ1.out.pk
    have HK2 := hid (HK1.out.trans hk2 (fun _ _ e => e))
    clear HSH HMD x0 x1 x2 x3 hk2 HZ1 X3 k1 HK1
    go_wp2_with fail
    refine HM.out.mono ?_
    rintro e w3 ⟨kd, nb, E, C, A, s, hkd, nb0, nb4, hEk, hEi, rfl, hlie, hG, hst, hsl, hk3, hA⟩
    have HL0 := hid (show RWho E C w2 w3 s 0 [] (.slice none 0 0) from ⟨⟨A, hlie, hA, fun k e => (by simp [Value.ownBlock] at e)⟩, hk3, hG, hst, World.ownsRow_nil _ _ _ _, fun k e => (by simp [Value.ownBlock] at e)⟩)
    have HI0 := hid (WInv.zero (n := ps.length) (bnd := E.bnd) (conc := E.conc) hsl hst)
    have HEF := hid (eng_fn hEi hEk)
    have HKD := hid (And.intro hkd (And.intro nb0 nb4))
    have Y3 := hid y3
    have Y2 := hid y2
    clear HM y0 y1 y2 y3 hlie hG hst hsl hk3 hA hkd hEk hEi nb0 nb4
    generalize w.heap.size = xb at *
    obtain ⟨eb, heb⟩ : ∃ eb, eb = engBk kd nb := ⟨_, rfl⟩
    rw [← heb]
    have HEB := hid heb
    clear heb
    go_wp2
    go_loopw [6, 7] (fun uv iv wz => ∃ (i : Nat) (s : RgS) (who : List Int) (u : Value), i ≤ picks.length ∧ iv = .int .i64 (i : Int) ∧ uv = u ∧ Hid (RWho E C w2 wz s i who u) ∧ Hid (WInv ps.length E.bnd E.conc s who)) (fun _ iv _ => picks.length - (intOf iv).toNat)
    case atStart => exact ⟨0, s, [], _, Nat.zero_le _, rfl, rfl, HL0, HI0⟩
    case round =>
      obtain ⟨i, s, who, u, hi, rfl, huv, HL, HI⟩ := hrel
      obtain rfl : u = _ := huv.symm
      clear HL0 HI0
      have y3 := HL.out.kp.cell Y3.out (fun e => e)
      have hwl : who.length = i := by rw [HI.out.len, HL.out.st]
      by_cases hlt : i < picks.length
      · have e1 : decide ((i : Int) < (picks.length : Int)) = true := decide_eq_true (by omega)
        have wi : IntKind.i64.wrap ((i : Int) + 1) = (i : Int) + 1 := by rw [IntKind.wrap_i64]; omega
        have i0 : (0 : Int) ≤ (i : Int) := by omega
        obtain ⟨p, hp⟩ : ∃ p, picks[i]? = some p := ⟨_, List.getElem?_eq_getElem hlt⟩
        obtain ⟨pb0, pb1⟩ := HPK.out p (List.mem_of_getElem? hp)
        obtain ⟨ab, ao, ac, hve, hcl⟩ := Rd.cell HRK.out (by omega)
        simp only [Value.slice.injEq] at hve
        obtain ⟨rfl, -, rfl⟩ := hve
        have q0 : wr.cell? ⟨ab, ao + i, none⟩ = some (.int .i64 p) := HL.out.kp.cell (hcl i _ (by simp [hp])) (fun h => h)
        have HP := hid (rwho_pick HL.out n0 n6 (by omega) pb0 pb1)
        have HWL := hid hwl
        clear hcl hp pb0 pb1 hwl
        go_wp2_with fail
        refine HP.out.mono ?_
        rintro e w5 ⟨k', pc', ac', tk', d', s2, rfl, hkn, hl2, hpk⟩
        have HPR := hid (And.intro hkn hpk)
        have HL2 := hid hl2
        clear HP hl2 q0 y3 hkn hpk
        go_upto_region 11 with fail
        obtain ⟨W, hW⟩ : ∃ W, W = w5.alloc (.cells #[.int .i64 k', .int .u8 pc', .bool ac', .bool tk', .bool d'] 31 (0, 0)) := ⟨_, rfl⟩
        rw [← hW]
        have kW : Keep Nil w5 W := by rw [hW]; exact (Keep.refl _ _).alloc _
        have oW : W.heap[w5.heap.size]? = some (.cells #[.int .i64 k', .int .u8 pc', .bool ac', .bool tk', .bool d'] 31 (0, 0)) := by rw [hW]; exact heap_alloc_new _ _
        have z0 : W.cell? ⟨w5.heap.size, 0, none⟩ = some (.int .i64 k') := by rw [cell_of oW]; rfl
        have z1 : W.cell? ⟨w5.heap.size, 1, none⟩ = some (.int .u8 pc') := by rw [cell_of oW]; rfl
        have HL3 := hid (HL2.out.quiet kW)
        clear hW kW oW HL2
        generalize w5.heap.size = sb at *
        by_cases hpc : pc' = 0
        · have b1 : (pc' == 0) = true := by simp [hpc]
          have HIN := hid (HI.out.step HL.out.g (by rw [HL3.out.st, HL.out.st]) HPR.out.2 HPR.out.1 (w := -1) (by rw [if_pos hpc]))
          clear hpc
          go_wp2_with (at_builtin; refine wpList_app _ rfl _ _ 23 rfl 3 _ 1 8 Tryz.underlying23 infoInt rfl (by decide) u who.length (i64s who) rfl ?own _ 1 [.int .i64 (-1)] rfl ?rd ?one ?byt ?len ?_)
          case own => exact row_keep HL3.out.row ((Keep.refl Nil W).alloc _) (fun _ _ e => e)
          case rd => exact rd_new _ _ _ _ _ _
          case one => simp [Value.oneCell']
          case byt => have := HWL.out; omega
          case len => have := HWL.out; unfold maxLen; omega
          intro a' c' w6 ho hg hs
          have HL4 := hid (rwho_app (HL3.out.quiet ((Keep.refl Nil W).alloc _)) ho hg hs)
          clear ho hg hs HL3 z0 z1
          go_wp2
          go_roundw
          case rel => exact ⟨i + 1, s2, who ++ [-1], _, by omega, by go_num, rfl, HL4, HIN⟩
          case measure => simp [intOf]; omega
        · have b1 : (pc' == 0) = false := by simp [hpc]
          have HIN := hid (HI.out.step HL.out.g (by rw [HL3.out.st, HL.out.st]) HPR.out.2 HPR.out.1 (w := (k' : Int)) (by rw [if_neg hpc]))
          clear hpc
          go_wp2_with (at_builtin; refine wpList_app _ rfl _ _ 23 rfl 3 _ 1 8 Tryz.underlying23 infoInt rfl (by decide) u who.length (i64s who) rfl ?own _ 1 [.int .i64 k'] rfl ?rd ?one ?byt ?len ?_)
          case own => exact row_keep HL3.out.row ((Keep.refl Nil W).alloc _) (fun _ _ e => e)
          case rd => exact rd_new _ _ _ _ _ _
          case one => simp [Value.oneCell']
          case byt => have := HWL.out; omega
          case len => have := HWL.out; unfold maxLen; omega
          intro a' c' w6 ho hg hs
          have HL4 := hid (rwho_app (HL3.out.quiet ((Keep.refl Nil W).alloc _)) ho hg hs)
          clear ho hg hs HL3 z0 z1
          go_wp2
          go_roundw
          case rel => exact ⟨i + 1, s2, who ++ [(k' : Int)], _, by omega, by go_num, rfl, HL4, HIN⟩
          case measure => simp [intOf]; omega
      · obtain rfl : i = picks.length := by omega
        have e1 : decide ((picks.length : Int) < (picks.length : Int)) = false := decide_eq_false (by omega)
        have y2 := HL.out.kp.cell Y2.out (fun e => e)
        have hlen : s.l.length ≤ 600 := by have := HL.out.g.len; have := HL.out.st; omega
        have HEV := hid (fun (W : World) (hk : Keep Nil wr W) => rwho_events (HL.out.quiet hk) (by omega))
        have HBF := hid (show BdF s.l who (concP kd nb) (bndP kd ps.length nb) by rw [← HEF.out.1, ← HEF.out.2]; exact BdF.of HL.out.g HI.out)
        have HBD := hid (fun (W : World) (v : Value) (rd : Rd W 4 v s.l.length (evCells s.l)) (hk : Keep Nil wr W) => (by have q := bounded_ok HKD.out.1 HKD.out.2.1 HKD.out.2.2 n0 n6 s.l who HBF.out v rd (by omega) u (rd_keep (row_rd HL.out.row) hk (fun _ _ e => e)) (by omega); rw [← HEB.out] at q; exact q : Calls Tryz.prog 11 #[v, u, .int .u8 kd, .int .i64 ps.length, .int .i64 eb] W fun e w' => e = .returned (.bool true) ∧ Keep Nil W w'))
        have HKF := hid (HK2.out.trans HL.out.kp (fun _ _ e => e))
        clear HL HI hwl HBF huv
        obtain ⟨wo, rfl⟩ : ∃ wo : World, wo = wr := ⟨_, rfl⟩
        go_wp2
        go_region_held3 (fun w' => w'.cell? ⟨xb, 2, none⟩ = some (.slice pa ps.length pc)) (go_keep)
          (first
            | (go_at_call 9; refine (HEV.out _ (Keep.refl Nil wo).drew).mono ?_; rintro e wA ⟨vA, rfl, rdA, kA'⟩; have kA : Keep Nil wo wA := (Keep.refl Nil wo).drew.trans kA' (fun _ _ h => h); have pA := kA.cell y2 (fun h => h); have RA := hid rdA; clear rdA kA')
            | (go_at_call 11; refine (HBD.out _ _ RA.out kA).mono ?_; rintro e wD ⟨rfl, kD'⟩; have kD : Keep Nil wo wD := kA.trans kD' (fun _ _ h => h); have pD := kD.cell y2 (fun h => h); clear kD'))
        go_wp2
        go_ret
        exact ⟨rfl, HKF.out.trans kD (fun _ _ h => h)⟩
end Go.Proofs.YtldjlcdccnnogaaGreat
