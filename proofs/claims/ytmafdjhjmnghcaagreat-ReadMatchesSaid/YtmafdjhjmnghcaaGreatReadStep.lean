/- read: the contract of Step. -/
import Derived.Test.YtmafdjhjmnghcaaGreatReadBy
import Derived.Test.YtmafdjhjmnghcaaGreatFieldP
import Derived.Test.YtmafdjhjmnghcaaGreatReadActs
set_option linter.unusedVariables false
set_option linter.unusedSimpArgs false
namespace Go.Proofs.YtmafdjhjmnghcaaGreat
open Go.RowKit Go.Lf
attribute [local go_sem] fld0 fld1 fld2 fld3 fld4 fld5 fld6 fld7 fld8 fld9 fldc fldl
section
variable {w w1 w2 : World} {A : Nat → Prop} {c : Cfg} {b mb L r : Nat} {F G : Nat → Prop} {ws : List Int} {log log' : List Acc} {s s' : RS} {i : Nat}
/-- The reading of a word. -/
structure RIn (w : World) (A : Nat → Prop) (c : Cfg) (b mb L r : Nat) (F G : Nat → Prop) (ws : List Int) (log : List Acc) (s : RS) (i : Nat) : Prop where
  sp : SP w A c b mb L F G ws log
  ok : c.ok
  at_ : ReadAt w r b s
  nA : ¬ A r
  hi : i < c.nT
  tw : s.tower = i + 1
  t0 : 0 ≤ s.th
  t1 : s.th < 64
  wf : ∀ x ∈ ws, 0 ≤ x ∧ x < 18446744073709551616
  len : c.words ≤ ws.length
  lg : log.length < 1000000000000
  gd : s.good c.lk
theorem RIn.word (h : RIn w A c b mb L r F G ws log s i) (n : Nat) (hn : n ≤ 4) : ∃ x, ws[c.tow i + n]? = some x ∧ 0 ≤ x ∧ x < 18446744073709551616 := by
  have := c.tow_rng h.hi
  have hl := h.len
  have hx : ws[c.tow i + n]? = some ws[c.tow i + n] := List.getElem?_eq_getElem (by omega)
  exact ⟨_, hx, h.wf _ (List.mem_of_getElem? hx)⟩
def RActTo (w : World) (A : Nat → Prop) (c : Cfg) (b mb : Nat) (ws : List Int) (lo : List Acc) (ac : Acc) (r : Nat) (s' : RS) (e : Ending) (w' : World) : Prop :=
  e = .returned (.tuple #[]) ∧ ∃ log', log' = lo ++ [ac] ∧ RTo w A c b mb ws log' r s' w'
set_option maxRecDepth 100000 in
set_option maxHeartbeats 4000000 in
theorem rfirst_ok (h : RIn w A c b mb L r F G ws log s i) (hn : s.next = 23) : Calls Tryz.prog 145 #[.pointer (some ⟨r, 0, none⟩)] w (RActTo w A c b mb ws log (s.acc (c.tow i) c.descs ws) r (s.step c.lk (s.word (c.tow i) c.descs ws))) := by
  obtain ⟨x, hx, x0, x1⟩ := h.word 4 (by omega)
  have hw : s.word (c.tow i) c.descs ws = x := by unfold RS.word RS.at; rw [if_pos hn, hx]; rfl
  have HACC := hid (show s.acc (c.tow i) c.descs ws = ⟨s.th, (c.tow i : Int) + 4, 1, x, x, false⟩ from by
    have ha : ((s.at (c.tow i) c.descs : Nat) : Int) = (c.tow i : Int) + 4 := by unfold RS.at; rw [if_pos hn]; rfl
    unfold RS.acc; rw [hw, ha])
  have hs : s.step c.lk x = s.by c.lk x := by unfold RS.step; rw [if_pos hn]
  rw [hw, hs]
  have H := hid h
  have HX := hid hx
  clear h hx hw hs hn
  go_enter Tryz.func145, Tryz.ntmps145
  go_wp2_with fail
  refine (rword_ok H.out.sp H.out.ok H.out.at_ H.out.nA H.out.hi H.out.tw H.out.t0 H.out.t1 4 (by decide) (by decide) x HX.out H.out.lg).mono ?_
  rintro e w1 ⟨rfl, hto⟩
  obtain ⟨A1, L1, F1, G1, h1, n1, r1, k1, f1⟩ := RTo.one H.out.at_ H.out.nA hto
  have H1 := hid h1
  have R1 := hid r1
  have K1 := hid k1
  have F1 := hid f1
  clear hto h1 r1 k1 f1
  go_wp2_with fail
  refine (rby_ok H1.out H.out.ok R1.out n1 x x0 x1).mono ?_
  rintro e w2 ⟨rfl, hr2, hk2⟩
  have HT := hid (RTo.two H1.out n1 K1.out F1.out hr2 hk2)
  clear hr2 hk2
  go_wp2
  go_end0
  exact ⟨rfl, _, by rw [HACC.out], HT.out⟩
set_option maxRecDepth 100000 in
set_option maxHeartbeats 4000000 in
theorem rplain_ok (h : RIn w A c b mb L r F G ws log s i) (hn : s.next = 25) : Calls Tryz.prog 147 #[.pointer (some ⟨r, 0, none⟩)] w (RActTo w A c b mb ws log (s.acc (c.tow i) c.descs ws) r (s.step c.lk (s.word (c.tow i) c.descs ws))) := by
  obtain ⟨x, hx, x0, x1⟩ := h.word 1 (by omega)
  have hw : s.word (c.tow i) c.descs ws = x := by unfold RS.word RS.at; rw [if_neg (by omega), if_neg (by omega), if_pos hn, hx]; rfl
  have HACC := hid (show s.acc (c.tow i) c.descs ws = ⟨s.th, (c.tow i : Int) + 1, 1, x, x, false⟩ from by
    have ha : ((s.at (c.tow i) c.descs : Nat) : Int) = (c.tow i : Int) + 1 := by unfold RS.at; rw [if_neg (by omega), if_neg (by omega), if_pos hn]; rfl
    unfold RS.acc; rw [hw, ha])
  have hs : s.step c.lk x = s.fin x true := by unfold RS.step; rw [if_neg (by omega), if_neg (by omega), if_pos hn]
  rw [hw, hs]
  have H := hid h
  have HX := hid hx
  clear h hx hw hs hn
  go_enter Tryz.func147, Tryz.ntmps147
  go_wp2_with fail
  refine (rword_ok H.out.sp H.out.ok H.out.at_ H.out.nA H.out.hi H.out.tw H.out.t0 H.out.t1 1 (by decide) (by decide) x HX.out H.out.lg).mono ?_
  rintro e w1 ⟨rfl, hto⟩
  obtain ⟨A1, L1, F1, G1, h1, n1, r1, k1, f1⟩ := RTo.one H.out.at_ H.out.nA hto
  have H1 := hid h1
  have R1 := hid r1
  have K1 := hid k1
  have FT1 := hid f1
  clear hto h1 r1 k1 f1
  go_wp2_with fail
  refine (rend_ok R1.out x true).mono ?_
  rintro e w2 ⟨rfl, hr2, hk2⟩
  have HT := hid (RTo.two H1.out n1 K1.out FT1.out hr2 hk2)
  clear hr2 hk2
  go_wp2
  go_end0
  exact ⟨rfl, _, by rw [HACC.out], HT.out⟩
set_option maxRecDepth 100000 in
set_option maxHeartbeats 4000000 in
theorem ralt_ok (h : RIn w A c b mb L r F G ws log s i) (hn : s.next = 26) : Calls Tryz.prog 148 #[.pointer (some ⟨r, 0, none⟩)] w (RActTo w A c b mb ws log (s.acc (c.tow i) c.descs ws) r (s.step c.lk (s.word (c.tow i) c.descs ws))) := by
  obtain ⟨x, hx, x0, x1⟩ := h.word 2 (by omega)
  have hw : s.word (c.tow i) c.descs ws = x := by unfold RS.word RS.at; rw [if_neg (by omega), if_neg (by omega), if_neg (by omega), if_pos hn, hx]; rfl
  have HACC := hid (show s.acc (c.tow i) c.descs ws = ⟨s.th, (c.tow i : Int) + 2, 1, x, x, false⟩ from by
    have ha : ((s.at (c.tow i) c.descs : Nat) : Int) = (c.tow i : Int) + 2 := by unfold RS.at; rw [if_neg (by omega), if_neg (by omega), if_neg (by omega), if_pos hn]; rfl
    unfold RS.acc; rw [hw, ha])
  have hs : s.step c.lk x = { s with value := x, next := 27 } := by unfold RS.step; rw [if_neg (by omega), if_neg (by omega), if_neg (by omega), if_pos hn]
  rw [hw, hs]
  have H := hid h
  have HX := hid hx
  clear h hx hw hs hn
  go_enter Tryz.func148, Tryz.ntmps148
  go_wp2_with fail
  refine (rword_ok H.out.sp H.out.ok H.out.at_ H.out.nA H.out.hi H.out.tw H.out.t0 H.out.t1 2 (by decide) (by decide) x HX.out H.out.lg).mono ?_
  rintro e w1 ⟨rfl, hto⟩
  obtain ⟨A1, L1, F1, G1, h1, n1, r1, k1, f1⟩ := RTo.one H.out.at_ H.out.nA hto
  have H1 := hid h1
  have R1 := hid r1
  have K1 := hid k1
  have FT1 := hid f1
  have c6 : w1.cell? ⟨r, 6, none⟩ = some (.int .u64 s.value) := by rw [cell_of r1]; rfl
  have c9 : w1.cell? ⟨r, 9, none⟩ = some (.int .u8 s.next) := by rw [cell_of r1]; rfl
  have fr : ∀ i, w1.frozen? ⟨r, i, none⟩ = false := fun i => free_of r1 i
  clear hto h1 r1 k1 f1
  go_wp2
  go_end0
  exact ⟨rfl, _, by rw [HACC.out], RTo.two H1.out n1 K1.out FT1.out (set_same (set_same R1.out _) _) (((Keep.refl (fun k => k = r) w1).setCell (.inl rfl) _).setCell (.inl rfl) _)⟩
set_option maxRecDepth 100000 in
set_option maxHeartbeats 8000000 in
theorem ragain_ok (h : RIn w A c b mb L r F G ws log s i) (hn : s.next = 27) : Calls Tryz.prog 149 #[.pointer (some ⟨r, 0, none⟩)] w (RActTo w A c b mb ws log (s.acc (c.tow i) c.descs ws) r (s.step c.lk (s.word (c.tow i) c.descs ws))) := by
  obtain ⟨x, hx, x0, x1⟩ := h.word 4 (by omega)
  have hw : s.word (c.tow i) c.descs ws = x := by unfold RS.word RS.at; rw [if_neg (by omega), if_neg (by omega), if_neg (by omega), if_neg (by omega), hx]; rfl
  have HACC := hid (show s.acc (c.tow i) c.descs ws = ⟨s.th, (c.tow i : Int) + 4, 1, x, x, false⟩ from by
    have ha : ((s.at (c.tow i) c.descs : Nat) : Int) = (c.tow i : Int) + 4 := by unfold RS.at; rw [if_neg (by omega), if_neg (by omega), if_neg (by omega), if_neg (by omega)]; rfl
    unfold RS.acc; rw [hw, ha])
  have hs : s.step c.lk x = if x = s.state then s.fin s.value true else if s.fails + 1 = s.tries then { s with fails := s.fails + 1, err := 11 }.fin 0 false else { s with fails := s.fails + 1, value := 0 }.by c.lk x := by
    unfold RS.step; rw [if_neg (by omega), if_neg (by omega), if_neg (by omega), if_neg (by omega)]
  rw [hw, hs]
  have H := hid h
  have HX := hid hx
  have hfl := h.gd.fl
  have wf1 : IntKind.i64.wrap (s.fails + 1) = s.fails + 1 := by rw [IntKind.wrap_i64]; omega
  clear h hx hw hs hn
  by_cases hxs : x = s.state
  · rw [if_pos hxs]
    have dx : (x == s.state) = true := beq_iff_eq.2 hxs
    clear hxs
    go_enter Tryz.func149, Tryz.ntmps149
    go_wp2_with fail
    refine (rword_ok H.out.sp H.out.ok H.out.at_ H.out.nA H.out.hi H.out.tw H.out.t0 H.out.t1 4 (by decide) (by decide) x HX.out H.out.lg).mono ?_
    rintro e w1 ⟨rfl, hto⟩
    obtain ⟨A1, L1, F1, G1, h1, n1, r1, k1, f1⟩ := RTo.one H.out.at_ H.out.nA hto
    have H1 := hid h1
    have R1 := hid r1
    have K1 := hid k1
    have FT1 := hid f1
    have c4 : w1.cell? ⟨r, 4, none⟩ = some (.int .i64 s.fails) := by rw [cell_of r1]; rfl
    have c3 : w1.cell? ⟨r, 3, none⟩ = some (.int .i64 s.tries) := by rw [cell_of r1]; rfl
    have c5 : w1.cell? ⟨r, 5, none⟩ = some (.int .u64 s.state) := by rw [cell_of r1]; rfl
    have c6 : w1.cell? ⟨r, 6, none⟩ = some (.int .u64 s.value) := by rw [cell_of r1]; rfl
    have c10 : w1.cell? ⟨r, 10, none⟩ = some (.int .i64 s.err) := by rw [cell_of r1]; rfl
    have fr : ∀ i, w1.frozen? ⟨r, i, none⟩ = false := fun i => free_of r1 i
    clear hto h1 r1 k1 f1

    go_wp2_with fail
    refine (rend_ok R1.out s.value true).mono ?_
    rintro e w2 ⟨rfl, hr2, hk2⟩
    have HT := hid (RTo.two H1.out n1 K1.out FT1.out hr2 hk2)
    clear hr2 hk2
    go_wp2
    go_end0
    exact ⟨rfl, _, by rw [HACC.out], HT.out⟩
  · rw [if_neg hxs]
    have dx : (x == s.state) = false := beq_eq_false_iff_ne.2 hxs
    clear hxs
    by_cases hft : s.fails + 1 = s.tries
    · rw [if_pos hft]
      have dt : (s.fails + 1 == s.tries) = true := beq_iff_eq.2 hft
      clear hft
      go_enter Tryz.func149, Tryz.ntmps149
      go_wp2_with fail
      refine (rword_ok H.out.sp H.out.ok H.out.at_ H.out.nA H.out.hi H.out.tw H.out.t0 H.out.t1 4 (by decide) (by decide) x HX.out H.out.lg).mono ?_
      rintro e w1 ⟨rfl, hto⟩
      obtain ⟨A1, L1, F1, G1, h1, n1, r1, k1, f1⟩ := RTo.one H.out.at_ H.out.nA hto
      have H1 := hid h1
      have R1 := hid r1
      have K1 := hid k1
      have FT1 := hid f1
      have c4 : w1.cell? ⟨r, 4, none⟩ = some (.int .i64 s.fails) := by rw [cell_of r1]; rfl
      have c3 : w1.cell? ⟨r, 3, none⟩ = some (.int .i64 s.tries) := by rw [cell_of r1]; rfl
      have c5 : w1.cell? ⟨r, 5, none⟩ = some (.int .u64 s.state) := by rw [cell_of r1]; rfl
      have c6 : w1.cell? ⟨r, 6, none⟩ = some (.int .u64 s.value) := by rw [cell_of r1]; rfl
      have c10 : w1.cell? ⟨r, 10, none⟩ = some (.int .i64 s.err) := by rw [cell_of r1]; rfl
      have fr : ∀ i, w1.frozen? ⟨r, i, none⟩ = false := fun i => free_of r1 i
      clear hto h1 r1 k1 f1

      have hz : ((w1.setCell ⟨r, 4, none⟩ (.int .i64 (s.fails + 1))).setCell ⟨r, 6, none⟩ (.int .u64 0)).heap[r]? = _ := set_same (set_same R1.out _) _
      have hz' : ReadAt ((w1.setCell ⟨r, 4, none⟩ (.int .i64 (s.fails + 1))).setCell ⟨r, 6, none⟩ (.int .u64 0)) r b { s with fails := s.fails + 1, value := 0 } := hz
      have kz := ((Keep.refl (fun k => k = r) w1).setCell (p := ⟨r, 4, none⟩) (.inl rfl) (.int .i64 (s.fails + 1))).setCell (p := ⟨r, 6, none⟩) (.inl rfl) (.int .u64 0)
      go_wp2_with fail
      obtain ⟨Z, hZ⟩ : ∃ Z : World, Z = (w1.setCell ⟨r, 4, none⟩ (.int .i64 (s.fails + 1))).setCell ⟨r, 6, none⟩ (.int .u64 0) := ⟨_, rfl⟩
      rw [← hZ] at hz' kz ⊢
      have HZ := hid hz'
      have HKZ := hid kz
      have d4 : Z.cell? ⟨r, 4, none⟩ = some (.int .i64 (s.fails + 1)) := by rw [cell_of hz']; rfl
      have d3 : Z.cell? ⟨r, 3, none⟩ = some (.int .i64 s.tries) := by rw [cell_of hz']; rfl
      clear hz hz' kz hZ c3 c4 c5 c6 c10 fr
      go_quiet (fail)
      obtain ⟨Y, hY⟩ : ∃ Y : World, Y = Z.drewN nq := ⟨_, rfl⟩
      have hyr : ReadAt Y r b { s with fails := s.fails + 1, value := 0 } := by rw [hY]; exact HZ.out.keep ((Keep.refl Nil Z).drewN _) (fun h => h)
      have hky : Keep (fun k => k = r) w1 Y := by rw [hY]; exact HKZ.out.drewN _
      rw [← hY]
      have HYR := hid hyr
      have HKY0 := hid hky
      have e10 : Y.cell? ⟨r, 10, none⟩ = some (.int .i64 s.err) := by rw [cell_of hyr]; rfl
      have fy : ∀ i, Y.frozen? ⟨r, i, none⟩ = false := fun i => free_of hyr i
      clear hY hyr hky d3 d4
      have hy' : ReadAt (Y.setCell ⟨r, 10, none⟩ (.int .i64 11)) r b { s with fails := s.fails + 1, value := 0, err := 11 } := set_same HYR.out _
      have ky := HKY0.out.setCell (p := ⟨r, 10, none⟩) (.inl rfl) (.int .i64 11)
      have HY := hid hy'
      have HKY := hid ky
      clear hy' ky
      go_wp2_with fail
      refine (rend_ok HY.out 0 false).mono ?_
      rintro e w2 ⟨rfl, hr2, hk2⟩
      have HT := hid (RTo.two (s' := ({ s with fails := s.fails + 1, err := 11 } : RS).fin 0 false) H1.out n1 K1.out FT1.out hr2 (HKY.out.trans hk2 (fun _ _ h => h)))
      clear hr2 hk2
      go_wp2
      go_end0
      exact ⟨rfl, _, by rw [HACC.out], HT.out⟩
    · rw [if_neg hft]
      have dt : (s.fails + 1 == s.tries) = false := beq_eq_false_iff_ne.2 hft
      clear hft
      go_enter Tryz.func149, Tryz.ntmps149
      go_wp2_with fail
      refine (rword_ok H.out.sp H.out.ok H.out.at_ H.out.nA H.out.hi H.out.tw H.out.t0 H.out.t1 4 (by decide) (by decide) x HX.out H.out.lg).mono ?_
      rintro e w1 ⟨rfl, hto⟩
      obtain ⟨A1, L1, F1, G1, h1, n1, r1, k1, f1⟩ := RTo.one H.out.at_ H.out.nA hto
      have H1 := hid h1
      have R1 := hid r1
      have K1 := hid k1
      have FT1 := hid f1
      have c4 : w1.cell? ⟨r, 4, none⟩ = some (.int .i64 s.fails) := by rw [cell_of r1]; rfl
      have c3 : w1.cell? ⟨r, 3, none⟩ = some (.int .i64 s.tries) := by rw [cell_of r1]; rfl
      have c5 : w1.cell? ⟨r, 5, none⟩ = some (.int .u64 s.state) := by rw [cell_of r1]; rfl
      have c6 : w1.cell? ⟨r, 6, none⟩ = some (.int .u64 s.value) := by rw [cell_of r1]; rfl
      have c10 : w1.cell? ⟨r, 10, none⟩ = some (.int .i64 s.err) := by rw [cell_of r1]; rfl
      have fr : ∀ i, w1.frozen? ⟨r, i, none⟩ = false := fun i => free_of r1 i
      clear hto h1 r1 k1 f1

      have hz : ((w1.setCell ⟨r, 4, none⟩ (.int .i64 (s.fails + 1))).setCell ⟨r, 6, none⟩ (.int .u64 0)).heap[r]? = _ := set_same (set_same R1.out _) _
      have hz' : ReadAt ((w1.setCell ⟨r, 4, none⟩ (.int .i64 (s.fails + 1))).setCell ⟨r, 6, none⟩ (.int .u64 0)) r b { s with fails := s.fails + 1, value := 0 } := hz
      have kz := ((Keep.refl (fun k => k = r) w1).setCell (p := ⟨r, 4, none⟩) (.inl rfl) (.int .i64 (s.fails + 1))).setCell (p := ⟨r, 6, none⟩) (.inl rfl) (.int .u64 0)
      go_wp2_with fail
      obtain ⟨Z, hZ⟩ : ∃ Z : World, Z = (w1.setCell ⟨r, 4, none⟩ (.int .i64 (s.fails + 1))).setCell ⟨r, 6, none⟩ (.int .u64 0) := ⟨_, rfl⟩
      rw [← hZ] at hz' kz ⊢
      have HZ := hid hz'
      have HKZ := hid kz
      have d4 : Z.cell? ⟨r, 4, none⟩ = some (.int .i64 (s.fails + 1)) := by rw [cell_of hz']; rfl
      have d3 : Z.cell? ⟨r, 3, none⟩ = some (.int .i64 s.tries) := by rw [cell_of hz']; rfl
      clear hz hz' kz hZ c3 c4 c5 c6 c10 fr
      go_quiet (fail)
      obtain ⟨Y, hY⟩ : ∃ Y : World, Y = Z.drewN nq := ⟨_, rfl⟩
      have hyr : ReadAt Y r b { s with fails := s.fails + 1, value := 0 } := by rw [hY]; exact HZ.out.keep ((Keep.refl Nil Z).drewN _) (fun h => h)
      have hky : Keep (fun k => k = r) w1 Y := by rw [hY]; exact HKZ.out.drewN _
      rw [← hY]
      have HYR := hid hyr
      have HKY0 := hid hky
      have e10 : Y.cell? ⟨r, 10, none⟩ = some (.int .i64 s.err) := by rw [cell_of hyr]; rfl
      have fy : ∀ i, Y.frozen? ⟨r, i, none⟩ = false := fun i => free_of hyr i
      clear hY hyr hky d3 d4
      have HY := HYR
      have HKY := HKY0
      have HSY := hid (H1.out.keep HKY0.out (fun k hk e => n1 (e ▸ hk)))
      go_wp2_with fail
      refine (rby_ok HSY.out H.out.ok HY.out n1 x x0 x1).mono ?_
      rintro e w2 ⟨rfl, hr2, hk2⟩
      have HT := hid (RTo.two H1.out n1 K1.out FT1.out hr2 (HKY.out.trans hk2 (fun _ _ h => h)))
      clear hr2 hk2
      go_wp2
      go_end0
      exact ⟨rfl, _, by rw [HACC.out], HT.out⟩
theorem RIn.desc (h : RIn w A c b mb L r F G ws log s i) (hn : s.next = 24) : ∃ x, ws[c.descs + (fEntry s.state).toNat]? = some x ∧ 0 ≤ x ∧ x < 18446744073709551616 := by
  have h1 := h.gd.en hn
  have h2 := fEntry_rng (w := s.state)
  have hl := h.len
  have : c.descs + c.lk ≤ c.words := by have := c.le3; have := c.le2; have := c.le1; unfold Cfg.pools at *; omega
  have hx : ws[c.descs + (fEntry s.state).toNat]? = some ws[c.descs + (fEntry s.state).toNat] := List.getElem?_eq_getElem (by omega)
  exact ⟨_, hx, h.wf _ (List.mem_of_getElem? hx)⟩
theorem fDecide_cases (s d : Int) : fDecide s d = (false, false, 4) ∨ fDecide s d = (false, false, 0) ∨ fDecide s d = (true, true, 0) ∨ fDecide s d = (true, false, 0) := by
  unfold fDecide
  cases fDec s d <;> (repeat' split) <;> simp
set_option maxRecDepth 100000 in
set_option maxHeartbeats 8000000 in
theorem rdesc_ok (h : RIn w A c b mb L r F G ws log s i) (hn : s.next = 24) : Calls Tryz.prog 146 #[.pointer (some ⟨r, 0, none⟩)] w (RActTo w A c b mb ws log (s.acc (c.tow i) c.descs ws) r (s.step c.lk (s.word (c.tow i) c.descs ws))) := by
  obtain ⟨x, hx, x0, x1⟩ := h.desc hn
  have hw : s.word (c.tow i) c.descs ws = x := by unfold RS.word RS.at; rw [if_neg (by omega), if_pos hn, hx]; rfl
  have HACC := hid (show s.acc (c.tow i) c.descs ws = ⟨s.th, (c.descs : Int) + fEntry s.state, 1, x, x, false⟩ from by
    have hen0 := (fEntry_rng (w := s.state)).1
    have ha : ((s.at (c.tow i) c.descs : Nat) : Int) = (c.descs : Int) + fEntry s.state := by unfold RS.at; rw [if_neg (by omega), if_pos hn]; omega
    unfold RS.acc; rw [hw, ha])
  have hs : s.step c.lk x = if (fDecide s.state x).2.2 ≠ 0 ∨ (fDecide s.state x).1 = false then s.fin 0 false else if (fDecide s.state x).2.1 = true then { s with next := 26 } else { s with next := 25 } := by
    unfold RS.step; rw [if_neg (by omega), if_pos hn]
  rw [hw, hs]
  have H := hid h
  obtain ⟨st0, st1⟩ := h.gd.st
  have hen := fEntry_rng (w := s.state)
  have HAD := hid (show 0 ≤ (c.descs : Int) + fEntry s.state ∧ ws[((c.descs : Int) + fEntry s.state).toNat]? = some x from ⟨by omega, by rw [show ((c.descs : Int) + fEntry s.state).toNat = c.descs + (fEntry s.state).toNat by omega]; exact hx⟩)
  have hdl : c.descs ≤ 4096 := by have := h.ok.towers; unfold Cfg.towers Cfg.heads Cfg.links Cfg.pools at this; omega
  have wad : IntKind.i64.wrap ((c.descs : Int) + fEntry s.state) = (c.descs : Int) + fEntry s.state := by rw [IntKind.wrap_i64]; omega
  have c0 : w.cell? ⟨r, 0, none⟩ = some (.pointer (some ⟨b, 0, none⟩)) := by rw [cell_of h.at_]; rfl
  have c1 : w.cell? ⟨r, 1, none⟩ = some (.int .i64 s.th) := by rw [cell_of h.at_]; rfl
  have c5 : w.cell? ⟨r, 5, none⟩ = some (.int .u64 s.state) := by rw [cell_of h.at_]; rfl
  clear h hx hw hs hn hdl hen
  rcases fDecide_cases s.state x with hd | hd | hd | hd
  · rw [hd, if_pos (.inl (by decide))]
    go_enter Tryz.func146, Tryz.ntmps146
    have KD := hid ((Keep.refl Nil w).drew)
    go_wp2
    go_region_held3 (fun w' => w'.cell? ⟨r, 0, none⟩ = some (.pointer (some ⟨b, 0, none⟩)) ∧ w'.cell? ⟨r, 1, none⟩ = some (.int .i64 s.th) ∧ w'.cell? ⟨r, 5, none⟩ = some (.int .u64 s.state)) (go_keep)
      (first
        | (go_at_call 24; (with_reducible refine (bmem_ok (H.out.sp.quiet KD.out)).mono ?_); rintro e w9 ⟨rfl, rfl⟩)
        | (go_at_call 22; (with_reducible refine (blayout_ok (H.out.sp.quiet KD.out)).mono ?_); rintro e w9 ⟨rfl, rfl⟩)
        | (go_at_call 23; (with_reducible refine (places_ok (H.out.sp.quiet KD.out).lay.at_).mono ?_); rintro e w8 ⟨rfl, hk8⟩; have K8 := hid (KD.out.trans hk8 (fun _ _ h => h)); have r8 := H.out.at_.keep K8.out (fun h => h); have e0 : w8.cell? ⟨r, 0, none⟩ = some (.pointer (some ⟨b, 0, none⟩)) := (by rw [cell_of r8]; rfl); have e1 : w8.cell? ⟨r, 1, none⟩ = some (.int .i64 s.th) := (by rw [cell_of r8]; rfl); have e5 : w8.cell? ⟨r, 5, none⟩ = some (.int .u64 s.state) := (by rw [cell_of r8]; rfl); clear hk8 r8)
        | (go_at_call 90; (with_reducible refine (fentry_ok s.state st0 st1).mono ?_); rintro e w9 ⟨rfl, rfl⟩)
        | (go_at_call 176; (with_reducible refine (load_ok (H.out.sp.quiet K8.out).mem s.th ((c.descs : Int) + fEntry s.state) x H.out.t0 H.out.t1 HAD.out.1 HAD.out.2 H.out.lg).mono ?_); rintro e w10 ⟨rfl, hm⟩; obtain ⟨A1, L1, F1, G1, h1, n1, r1, k1, f1⟩ := RTo.one H.out.at_ H.out.nA (H.out.sp.turn K8.out hm); have H1 := hid h1; have R1 := hid r1; have K1 := hid k1; have FT1 := hid f1; have i0 : w10.cell? ⟨r, 0, none⟩ = some (.pointer (some ⟨b, 0, none⟩)) := (by rw [cell_of r1]; rfl); have i1 : w10.cell? ⟨r, 1, none⟩ = some (.int .i64 s.th) := (by rw [cell_of r1]; rfl); have i5 : w10.cell? ⟨r, 5, none⟩ = some (.int .u64 s.state) := (by rw [cell_of r1]; rfl); have i9 : w10.cell? ⟨r, 9, none⟩ = some (.int .u8 s.next) := (by rw [cell_of r1]; rfl); have g9 : w10.frozen? ⟨r, 9, none⟩ = false := (free_of r1 9); clear hm h1 r1 k1 f1))
    all_goals
      go_wp2_with fail
      refine (fdecide_ok s.state x st0 st1 x0 x1 _ _ _ hd).mono ?_
      rintro e w' ⟨rfl, rfl⟩
      go_wp2_with fail
      refine (rend_ok R1.out 0 false).mono ?_
      rintro e w2 ⟨rfl, hr2, hk2⟩
      have HT := hid (RTo.two H1.out n1 K1.out FT1.out hr2 hk2)
      clear hr2 hk2
      go_wp2
      go_end0
      exact ⟨rfl, _, by rw [HACC.out], HT.out⟩
  · rw [hd, if_pos (.inr rfl)]
    go_enter Tryz.func146, Tryz.ntmps146
    have KD := hid ((Keep.refl Nil w).drew)
    go_wp2
    go_region_held3 (fun w' => w'.cell? ⟨r, 0, none⟩ = some (.pointer (some ⟨b, 0, none⟩)) ∧ w'.cell? ⟨r, 1, none⟩ = some (.int .i64 s.th) ∧ w'.cell? ⟨r, 5, none⟩ = some (.int .u64 s.state)) (go_keep)
      (first
        | (go_at_call 24; (with_reducible refine (bmem_ok (H.out.sp.quiet KD.out)).mono ?_); rintro e w9 ⟨rfl, rfl⟩)
        | (go_at_call 22; (with_reducible refine (blayout_ok (H.out.sp.quiet KD.out)).mono ?_); rintro e w9 ⟨rfl, rfl⟩)
        | (go_at_call 23; (with_reducible refine (places_ok (H.out.sp.quiet KD.out).lay.at_).mono ?_); rintro e w8 ⟨rfl, hk8⟩; have K8 := hid (KD.out.trans hk8 (fun _ _ h => h)); have r8 := H.out.at_.keep K8.out (fun h => h); have e0 : w8.cell? ⟨r, 0, none⟩ = some (.pointer (some ⟨b, 0, none⟩)) := (by rw [cell_of r8]; rfl); have e1 : w8.cell? ⟨r, 1, none⟩ = some (.int .i64 s.th) := (by rw [cell_of r8]; rfl); have e5 : w8.cell? ⟨r, 5, none⟩ = some (.int .u64 s.state) := (by rw [cell_of r8]; rfl); clear hk8 r8)
        | (go_at_call 90; (with_reducible refine (fentry_ok s.state st0 st1).mono ?_); rintro e w9 ⟨rfl, rfl⟩)
        | (go_at_call 176; (with_reducible refine (load_ok (H.out.sp.quiet K8.out).mem s.th ((c.descs : Int) + fEntry s.state) x H.out.t0 H.out.t1 HAD.out.1 HAD.out.2 H.out.lg).mono ?_); rintro e w10 ⟨rfl, hm⟩; obtain ⟨A1, L1, F1, G1, h1, n1, r1, k1, f1⟩ := RTo.one H.out.at_ H.out.nA (H.out.sp.turn K8.out hm); have H1 := hid h1; have R1 := hid r1; have K1 := hid k1; have FT1 := hid f1; have i0 : w10.cell? ⟨r, 0, none⟩ = some (.pointer (some ⟨b, 0, none⟩)) := (by rw [cell_of r1]; rfl); have i1 : w10.cell? ⟨r, 1, none⟩ = some (.int .i64 s.th) := (by rw [cell_of r1]; rfl); have i5 : w10.cell? ⟨r, 5, none⟩ = some (.int .u64 s.state) := (by rw [cell_of r1]; rfl); have i9 : w10.cell? ⟨r, 9, none⟩ = some (.int .u8 s.next) := (by rw [cell_of r1]; rfl); have g9 : w10.frozen? ⟨r, 9, none⟩ = false := (free_of r1 9); clear hm h1 r1 k1 f1))
    all_goals
      go_wp2_with fail
      refine (fdecide_ok s.state x st0 st1 x0 x1 _ _ _ hd).mono ?_
      rintro e w' ⟨rfl, rfl⟩
      go_wp2_with fail
      refine (rend_ok R1.out 0 false).mono ?_
      rintro e w2 ⟨rfl, hr2, hk2⟩
      have HT := hid (RTo.two H1.out n1 K1.out FT1.out hr2 hk2)
      clear hr2 hk2
      go_wp2
      go_end0
      exact ⟨rfl, _, by rw [HACC.out], HT.out⟩
  · rw [hd, if_neg (by simp), if_pos rfl]
    go_enter Tryz.func146, Tryz.ntmps146
    have KD := hid ((Keep.refl Nil w).drew)
    go_wp2
    go_region_held3 (fun w' => w'.cell? ⟨r, 0, none⟩ = some (.pointer (some ⟨b, 0, none⟩)) ∧ w'.cell? ⟨r, 1, none⟩ = some (.int .i64 s.th) ∧ w'.cell? ⟨r, 5, none⟩ = some (.int .u64 s.state)) (go_keep)
      (first
        | (go_at_call 24; (with_reducible refine (bmem_ok (H.out.sp.quiet KD.out)).mono ?_); rintro e w9 ⟨rfl, rfl⟩)
        | (go_at_call 22; (with_reducible refine (blayout_ok (H.out.sp.quiet KD.out)).mono ?_); rintro e w9 ⟨rfl, rfl⟩)
        | (go_at_call 23; (with_reducible refine (places_ok (H.out.sp.quiet KD.out).lay.at_).mono ?_); rintro e w8 ⟨rfl, hk8⟩; have K8 := hid (KD.out.trans hk8 (fun _ _ h => h)); have r8 := H.out.at_.keep K8.out (fun h => h); have e0 : w8.cell? ⟨r, 0, none⟩ = some (.pointer (some ⟨b, 0, none⟩)) := (by rw [cell_of r8]; rfl); have e1 : w8.cell? ⟨r, 1, none⟩ = some (.int .i64 s.th) := (by rw [cell_of r8]; rfl); have e5 : w8.cell? ⟨r, 5, none⟩ = some (.int .u64 s.state) := (by rw [cell_of r8]; rfl); clear hk8 r8)
        | (go_at_call 90; (with_reducible refine (fentry_ok s.state st0 st1).mono ?_); rintro e w9 ⟨rfl, rfl⟩)
        | (go_at_call 176; (with_reducible refine (load_ok (H.out.sp.quiet K8.out).mem s.th ((c.descs : Int) + fEntry s.state) x H.out.t0 H.out.t1 HAD.out.1 HAD.out.2 H.out.lg).mono ?_); rintro e w10 ⟨rfl, hm⟩; obtain ⟨A1, L1, F1, G1, h1, n1, r1, k1, f1⟩ := RTo.one H.out.at_ H.out.nA (H.out.sp.turn K8.out hm); have H1 := hid h1; have R1 := hid r1; have K1 := hid k1; have FT1 := hid f1; have i0 : w10.cell? ⟨r, 0, none⟩ = some (.pointer (some ⟨b, 0, none⟩)) := (by rw [cell_of r1]; rfl); have i1 : w10.cell? ⟨r, 1, none⟩ = some (.int .i64 s.th) := (by rw [cell_of r1]; rfl); have i5 : w10.cell? ⟨r, 5, none⟩ = some (.int .u64 s.state) := (by rw [cell_of r1]; rfl); have i9 : w10.cell? ⟨r, 9, none⟩ = some (.int .u8 s.next) := (by rw [cell_of r1]; rfl); have g9 : w10.frozen? ⟨r, 9, none⟩ = false := (free_of r1 9); clear hm h1 r1 k1 f1))
    all_goals
      go_wp2_with fail
      refine (fdecide_ok s.state x st0 st1 x0 x1 _ _ _ hd).mono ?_
      rintro e w' ⟨rfl, rfl⟩
      go_wp2
      go_end0
      exact ⟨rfl, _, by rw [HACC.out], RTo.two H1.out n1 K1.out FT1.out (set_same R1.out _) ((Keep.refl (fun k => k = r) w10).setCell (.inl rfl) _)⟩
  · rw [hd, if_neg (by simp), if_neg (by simp)]
    go_enter Tryz.func146, Tryz.ntmps146
    have KD := hid ((Keep.refl Nil w).drew)
    go_wp2
    go_region_held3 (fun w' => w'.cell? ⟨r, 0, none⟩ = some (.pointer (some ⟨b, 0, none⟩)) ∧ w'.cell? ⟨r, 1, none⟩ = some (.int .i64 s.th) ∧ w'.cell? ⟨r, 5, none⟩ = some (.int .u64 s.state)) (go_keep)
      (first
        | (go_at_call 24; (with_reducible refine (bmem_ok (H.out.sp.quiet KD.out)).mono ?_); rintro e w9 ⟨rfl, rfl⟩)
        | (go_at_call 22; (with_reducible refine (blayout_ok (H.out.sp.quiet KD.out)).mono ?_); rintro e w9 ⟨rfl, rfl⟩)
        | (go_at_call 23; (with_reducible refine (places_ok (H.out.sp.quiet KD.out).lay.at_).mono ?_); rintro e w8 ⟨rfl, hk8⟩; have K8 := hid (KD.out.trans hk8 (fun _ _ h => h)); have r8 := H.out.at_.keep K8.out (fun h => h); have e0 : w8.cell? ⟨r, 0, none⟩ = some (.pointer (some ⟨b, 0, none⟩)) := (by rw [cell_of r8]; rfl); have e1 : w8.cell? ⟨r, 1, none⟩ = some (.int .i64 s.th) := (by rw [cell_of r8]; rfl); have e5 : w8.cell? ⟨r, 5, none⟩ = some (.int .u64 s.state) := (by rw [cell_of r8]; rfl); clear hk8 r8)
        | (go_at_call 90; (with_reducible refine (fentry_ok s.state st0 st1).mono ?_); rintro e w9 ⟨rfl, rfl⟩)
        | (go_at_call 176; (with_reducible refine (load_ok (H.out.sp.quiet K8.out).mem s.th ((c.descs : Int) + fEntry s.state) x H.out.t0 H.out.t1 HAD.out.1 HAD.out.2 H.out.lg).mono ?_); rintro e w10 ⟨rfl, hm⟩; obtain ⟨A1, L1, F1, G1, h1, n1, r1, k1, f1⟩ := RTo.one H.out.at_ H.out.nA (H.out.sp.turn K8.out hm); have H1 := hid h1; have R1 := hid r1; have K1 := hid k1; have FT1 := hid f1; have i0 : w10.cell? ⟨r, 0, none⟩ = some (.pointer (some ⟨b, 0, none⟩)) := (by rw [cell_of r1]; rfl); have i1 : w10.cell? ⟨r, 1, none⟩ = some (.int .i64 s.th) := (by rw [cell_of r1]; rfl); have i5 : w10.cell? ⟨r, 5, none⟩ = some (.int .u64 s.state) := (by rw [cell_of r1]; rfl); have i9 : w10.cell? ⟨r, 9, none⟩ = some (.int .u8 s.next) := (by rw [cell_of r1]; rfl); have g9 : w10.frozen? ⟨r, 9, none⟩ = false := (free_of r1 9); clear hm h1 r1 k1 f1))
    all_goals
      go_wp2_with fail
      refine (fdecide_ok s.state x st0 st1 x0 x1 _ _ _ hd).mono ?_
      rintro e w' ⟨rfl, rfl⟩
      go_wp2
      go_end0
      exact ⟨rfl, _, by rw [HACC.out], RTo.two H1.out n1 K1.out FT1.out (set_same R1.out _) ((Keep.refl (fun k => k = r) w10).setCell (.inl rfl) _)⟩
/-- A step has been made. -/
def RStepTo (w : World) (A : Nat → Prop) (c : Cfg) (b mb : Nat) (ws : List Int) (lo : List Acc) (ac : Acc) (r : Nat) (pc : Int) (s' : RS) (e : Ending) (w' : World) : Prop :=
  e = .returned (.tuple #[.int .u8 pc, .bool s'.ended]) ∧ ∃ log', log' = lo ++ [ac] ∧ RTo w A c b mb ws log' r s' w'
end
end Go.Proofs.YtmafdjhjmnghcaaGreat
