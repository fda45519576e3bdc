/- pool: what the steps of Give do. -/
import Derived.Test.YtjghenomeindcaaGreatPoolT
set_option linter.unusedVariables false
set_option linter.unusedSimpArgs false
namespace Go.Proofs.YtjghenomeindcaaGreat
open Go.RowKit Go.Lf
section
variable {w w1 w2 w' : World} {A : Nat → Prop} {c : Cfg} {pb mb L ob gb tb m : Nat} {F G : Nat → Prop} {s s' : PSt} {ws' : List Int} {log' : List Acc} {o o' : PO}
set_option maxRecDepth 100000 in
set_option maxHeartbeats 4000000 in
theorem glook_ok (h : PIn w A c pb mb L ob gb F G s tb m o) (ht : GvAt w tb m pb c o) (x : Int) (hx : s.ws[c.pools + o.ht - 1]? = some x) :
    Calls Tryz.prog 85 #[.pointer (some ⟨tb, 0, none⟩)] w fun e w' => e = .returned (.tuple #[]) ∧ GTo w A c pb mb L tb m { s with log := s.log ++ [⟨o.th, hdOf c o, 1, x, x, false⟩] } { o with w := x, pc := 7 } w' := by
  have H := hid h
  have HT := hid ht
  have HX := hid (show s.ws[(hdOf c o).toNat]? = some x by rw [h.hd.2]; exact hx)
  clear h ht hx
  go_enter Tryz.func85, Tryz.ntmps85
  go_wp2_with fail
  refine (cload_ok H.out.pa HT.out.com H.out.n1 H.out.t0 H.out.t1 H.out.hd.1 x HX.out (Nat.lt_trans H.out.lg (by decide))).mono ?_
  rintro e w9 ⟨rfl, w1, A1, F1, h1, k1, f1, rfl⟩
  have t1 := HT.out.keep k1 H.out.nF.1 H.out.nF.2
  have HLT := hid HT.out.lt.1
  have c5 : w1.cell? ⟨tb, 5, none⟩ = some (.int .u8 o.pc) := by rw [cell_of t1.head]; rfl
  have z5 : w1.frozen? ⟨tb, 5, none⟩ = false := free_of t1.head 5
  have H1 := hid h1
  have K1 := hid k1
  have FT := hid f1
  have T1 := hid t1
  clear h1 k1 f1 t1
  go_wp2
  go_end0
  have kX : Keep (fun k => k = tb) w1 ((w1.setCell ⟨tb, 4, none⟩ (.int .u64 x)).setCell ⟨tb, 5, none⟩ (.int .u8 7)) := ((Keep.refl (fun k => k = tb) w1).setCell (.inl rfl) _).setCell (.inl rfl) _
  exact ⟨rfl, GTo.mk H.out.pa H.out.n1 HLT.out H1.out K1.out FT.out (T1.out.put (o' := { o with w := x, pc := 7 }) kX (set_same (set_same T1.out.head _) _) rfl) kX⟩
set_option maxRecDepth 100000 in
set_option maxHeartbeats 4000000 in
theorem gonto_ok (h : PIn w A c pb mb L ob gb F G s tb m o) (ht : GvAt w tb m pb c o) (g1 : 1 ≤ o.tw) (g2 : o.tw ≤ c.nT) (w0 : 0 ≤ o.w) (w1 : o.w < 18446744073709551616) (x : Int) (hx : s.ws[c.links + o.tw.toNat - 1]? = some x) :
    Calls Tryz.prog 86 #[.pointer (some ⟨tb, 0, none⟩)] w fun e w' => e = .returned (.tuple #[]) ∧ GTo w A c pb mb L tb m { s with ws := s.ws.set (c.links + o.tw.toNat - 1) (o.w % 65536), log := s.log ++ [⟨o.th, ((c.links + o.tw.toNat - 1 : Nat) : Int), 2, x, o.w % 65536, false⟩] } { o with pc := 8 } w' := by
  have H := hid h
  have HT := hid ht
  have hat : ((c.links + o.tw.toNat - 1 : Nat) : Int) = (c.links : Int) + o.tw - 1 := by omega
  have hat2 : ((c.links : Int) + o.tw - 1).toNat = c.links + o.tw.toNat - 1 := by omega
  have HX := hid (show s.ws[((c.links : Int) + o.tw - 1).toNat]? = some x by rw [hat2]; exact hx)
  have HA0 := hid (show 0 ≤ (c.links : Int) + o.tw - 1 by omega)
  have HAT := hid hat2
  rw [hat]
  have hC := ht.com
  have i0 := hC.c0
  have i1 := hC.c1
  have i4 := hC.c4
  have i2 : w.cell? ⟨tb, 2, none⟩ = some (.int .i64 o.tw) := by rw [cell_of ht.head]; rfl
  obtain ⟨i5, -⟩ := h.pa.cells
  have wx : IntKind.u64.wrap (o.w % 65536) = o.w % 65536 := by rw [IntKind.wrap_u64]; omega
  clear h ht hx hC hat hat2
  go_enter Tryz.func86, Tryz.ntmps86
  have KD := hid ((Keep.refl Nil w).drew)
  go_wp2
  go_region_held3 (fun w' => w'.cell? ⟨tb, 0, none⟩ = some (.pointer (some ⟨pb, 0, none⟩)) ∧ w'.cell? ⟨tb, 1, none⟩ = some (.int .i64 o.th) ∧ w'.cell? ⟨tb, 2, none⟩ = some (.int .i64 o.tw) ∧ w'.cell? ⟨tb, 4, none⟩ = some (.int .u64 o.w) ∧ w'.cell? ⟨pb, 0, none⟩ = some (.pointer (some ⟨mb, 0, none⟩))) (go_keep)
    (first
      | (go_at_call 129; (with_reducible refine (clink_ok (H.out.pa.quiet KD.out) H.out.ok (HT.out.com.keep KD.out (fun h => h)) o.tw g1 g2).mono ?_); rintro e w9 ⟨rfl, rfl⟩)
      | (go_at_call 97; (with_reducible refine (ftower_ok o.w w0 w1).mono ?_); rintro e w9 ⟨rfl, rfl⟩)
      | (go_at_call 20; (with_reducible refine (store_ok (H.out.pa.quiet KD.out).mem o.th ((c.links : Int) + o.tw - 1) x (o.w % 65536) H.out.t0 H.out.t1 HA0.out HX.out (Nat.lt_trans H.out.lg (by decide))).mono ?_); rintro e w10 ⟨rfl, hm⟩; rw [HAT.out] at hm; obtain ⟨A1, F1, h1, k1, f1⟩ := H.out.pa.turn KD.out hm; have t1 := HT.out.keep k1 H.out.nF.1 H.out.nF.2; have H1 := hid h1; have K1 := hid k1; have FT := hid f1; have T1 := hid t1; have j0 := t1.com.c0; have j1 := t1.com.c1; have j2 : w10.cell? ⟨tb, 2, none⟩ = some (.int .i64 o.tw) := (by rw [cell_of t1.head]; rfl); have j4 := t1.com.c4; obtain ⟨j5, -⟩ := h1.cells; clear hm h1 k1 f1 t1))
  all_goals
    have c5 : w10.cell? ⟨tb, 5, none⟩ = some (.int .u8 o.pc) := by rw [cell_of T1.out.head]; rfl
    have z5 : w10.frozen? ⟨tb, 5, none⟩ = false := free_of T1.out.head 5
    have HLT := hid HT.out.lt.1
    go_wp2
    go_end0
    have kX : Keep (fun k => k = tb) w10 (w10.setCell ⟨tb, 5, none⟩ (.int .u8 8)) := (Keep.refl (fun k => k = tb) w10).setCell (.inl rfl) _
    exact ⟨rfl, GTo.mk H.out.pa H.out.n1 HLT.out H1.out K1.out FT.out (T1.out.put kX (set_same T1.out.head _) rfl) kX⟩
set_option maxRecDepth 100000 in
set_option maxHeartbeats 4000000 in
theorem ggive_no (h : PIn w A c pb mb L ob gb F G s tb m o) (ht : GvAt w tb m pb c o) (w0 : 0 ≤ o.w) (wq : o.w / 65536 < 1099511627775) (b0 : 1 ≤ o.tw) (b1 : o.tw ≤ c.nT) (x : Int) (hx : s.ws[c.pools + o.ht - 1]? = some x) (hne : x ≠ o.w) :
    Calls Tryz.prog 87 #[.pointer (some ⟨tb, 0, none⟩)] w fun e w' => e = .returned (.tuple #[]) ∧ GTo w A c pb mb L tb m { s with log := s.log ++ [⟨o.th, hdOf c o, 4, x, x, false⟩] } { o with pc := 4 } w' := by
  have hz : c.nT ≤ 1024 := h.ok.nT
  have b01 : 0 ≤ o.tw := by omega
  have b11 : o.tw ≤ 1024 := by omega
  have HLT := hid ht.lt.1
  have HX := hid (show s.ws[(hdOf c o).toNat]? = some x by rw [h.hd.2]; exact hx)
  have HNE := hid hne
  obtain ⟨W, hW⟩ : ∃ W, W = w.setCell ⟨tb, 5, none⟩ (.int .u8 4) := ⟨_, rfl⟩
  have kW : Keep (fun k => k = tb) w W := hW ▸ (Keep.refl (fun k => k = tb) w).setCell (.inl rfl) _
  have tW : GvAt W tb m pb c { o with pc := 4 } := ht.put kW (by rw [hW]; exact set_same ht.head _) rfl
  have pW : PA W A c pb mb L ob gb F G s := h.pa.keep kW (fun k hk e => h.n1 (e ▸ hk))
  have c5 : w.cell? ⟨tb, 5, none⟩ = some (.int .u8 o.pc) := by rw [cell_of ht.head]; rfl
  have z5 : w.frozen? ⟨tb, 5, none⟩ = false := free_of ht.head 5
  have i2 : W.cell? ⟨tb, 2, none⟩ = some (.int .i64 o.tw) := by rw [cell_of tW.head]; rfl
  have H := hid h
  have HT := hid tW
  have HP := hid pW
  have HKW := hid kW
  have HW := hid hW
  clear h ht hx hne pW tW kW hW
  go_enter Tryz.func87, Tryz.ntmps87
  have KD := hid ((Keep.refl Nil W).drew)
  go_upto_region 1 with fail
  rw [← HW.out]
  clear c5 z5
  go_region_held3 (fun w' => w'.cell? ⟨tb, 2, none⟩ = some (.int .i64 o.tw)) (go_keep)
    (first
      | (go_at_call 130; (with_reducible refine (cswap_no (w := W.drew) (HP.out.quiet KD.out) (HT.out.com.keep KD.out (fun h => h)) H.out.n1 H.out.t0 H.out.t1 H.out.hd.1 w0 wq o.tw b01 b11 x HX.out HNE.out (Nat.lt_trans H.out.lg (by decide))).mono ?_); rintro e w10 ⟨rfl, A1, F1, h1, k1, f1⟩; have H1 := hid h1; have K1 := hid (KD.out.mono (T := F) (fun _ _ h => h.elim) |>.trans k1 (fun _ _ h => h)); have FT := hid (show Foot W A A1 from f1); have T1 := hid (HT.out.keep K1.out H.out.nF.1 H.out.nF.2); have j2 : w10.cell? ⟨tb, 2, none⟩ = some (.int .i64 o.tw) := (by rw [cell_of T1.out.head]; rfl); clear h1 k1 f1))
  all_goals
    have K0 := hid ((HKW.out.mono (T := fun k => A k ∨ k = tb) (fun _ _ e => .inr e)).trans (K1.out.mono (T := fun k => A k ∨ k = tb) (fun k _ e => .inl (H.out.pa.subF k e))) (fun _ _ h => h))
    have FT0 := hid (show Foot w A A1 from fun k e => (FT.out k e).imp id (fun e => by have := HKW.out.size; omega))
    go_wp2
    go_end0
    exact ⟨rfl, A1, ⟨ob, gb, F1, G, H1.out⟩, T1.out, K0.out, FT0.out⟩
set_option maxRecDepth 100000 in
set_option maxHeartbeats 4000000 in
theorem ggive_yes (h : PIn w A c pb mb L ob gb F G s tb m o) (ht : GvAt w tb m pb c o) (w0 : 0 ≤ o.w) (wq : o.w / 65536 < 1099511627775) (b0 : 1 ≤ o.tw) (b1 : o.tw ≤ c.nT) (x : Int) (hx : s.ws[c.pools + o.ht - 1]? = some x) (hne : x = o.w) (g : Int) (hg : s.gens[o.tw.toNat - 1]? = some g) (g0 : 0 ≤ g) (g9 : g < 1000000000) :
    Calls Tryz.prog 87 #[.pointer (some ⟨tb, 0, none⟩)] w fun e w' => e = .returned (.tuple #[]) ∧ GTo w A c pb mb L tb m { ws := s.ws.set (c.pools + o.ht - 1) (o.tw + 65536 * (o.w / 65536 + 1)), log := s.log ++ [⟨o.th, hdOf c o, 4, o.w, o.tw + 65536 * (o.w / 65536 + 1), true⟩], out := pup s.out o.tw none, gens := s.gens.set (o.tw.toNat - 1) (g + 1) } { o with pc := 0 } w' := by
  subst hne
  have hz : c.nT ≤ 1024 := h.ok.nT
  have b01 : 0 ≤ o.tw := by omega
  have b11 : o.tw ≤ 1024 := by omega
  have HLT := hid ht.lt.1
  have HX := hid (show s.ws[(hdOf c o).toNat]? = some o.w by rw [h.hd.2]; exact hx)
  have HG := hid hg
  obtain ⟨W, hW⟩ : ∃ W, W = w.setCell ⟨tb, 5, none⟩ (.int .u8 4) := ⟨_, rfl⟩
  have kW : Keep (fun k => k = tb) w W := hW ▸ (Keep.refl (fun k => k = tb) w).setCell (.inl rfl) _
  have tW : GvAt W tb m pb c { o with pc := 4 } := ht.put kW (by rw [hW]; exact set_same ht.head _) rfl
  have pW : PA W A c pb mb L ob gb F G s := h.pa.keep kW (fun k hk e => h.n1 (e ▸ hk))
  have c5 : w.cell? ⟨tb, 5, none⟩ = some (.int .u8 o.pc) := by rw [cell_of ht.head]; rfl
  have z5 : w.frozen? ⟨tb, 5, none⟩ = false := free_of ht.head 5
  have i2 : W.cell? ⟨tb, 2, none⟩ = some (.int .i64 o.tw) := by rw [cell_of tW.head]; rfl
  have H := hid h
  have HT := hid tW
  have HP := hid pW
  have HKW := hid kW
  have HW := hid hW
  clear h ht hx pW tW kW hW
  go_enter Tryz.func87, Tryz.ntmps87
  have KD := hid ((Keep.refl Nil W).drew)
  go_upto_region 1 with fail
  rw [← HW.out]
  clear c5 z5
  go_region_held3 (fun w' => w'.cell? ⟨tb, 2, none⟩ = some (.int .i64 o.tw)) (go_keep)
    (first
      | (go_at_call 130; (with_reducible refine (cswap_yes (w := W.drew) (HP.out.quiet KD.out) (HT.out.com.keep KD.out (fun h => h)) H.out.n1 H.out.t0 H.out.t1 H.out.hd.1 w0 wq o.tw b01 b11 HX.out (Nat.lt_trans H.out.lg (by decide))).mono ?_); rintro e w10 ⟨rfl, A1, F1, h1, k1, f1⟩; have H1 := hid h1; have K1 := hid (KD.out.mono (T := F) (fun _ _ h => h.elim) |>.trans k1 (fun _ _ h => h)); have FT := hid (show Foot W A A1 from f1); have T1 := hid (HT.out.keep K1.out H.out.nF.1 H.out.nF.2); have j2 : w10.cell? ⟨tb, 2, none⟩ = some (.int .i64 o.tw) := (by rw [cell_of T1.out.head]; rfl); clear h1 k1 f1))
  all_goals
    have K0 := hid ((HKW.out.mono (T := fun k => A k ∨ k = tb) (fun _ _ e => .inr e)).trans (K1.out.mono (T := fun k => A k ∨ k = tb) (fun k _ e => .inl (H.out.pa.subF k e))) (fun _ _ h => h))
    have FT0 := hid (show Foot w A A1 from fun k e => (FT.out k e).imp id (fun e => by have := HKW.out.size; omega))
    have c0 := T1.out.com.c0
    obtain ⟨-, -, -, -, d4, -⟩ := H1.out.cells
    obtain ⟨ml, im, nd, hml⟩ := H1.out.out
    obtain ⟨W3, hrun, hm3, k3, z3⟩ := del_run (im.keep ((Keep.refl Nil w10).drew) (fun h => h)) Tryz.underlying177 Tryz.underlying3 o.tw
    have hob : tb ≠ ob := fun e => H.out.n1 ((H.out.pa.foot tb).2 (.inr (.inl e)))
    have hgb : tb ≠ gb := fun e => H.out.n1 ((H.out.pa.foot tb).2 (.inr (.inr (.inl e))))
    have k3' : Keep (fun k => k = ob) w10 W3 := ((Keep.refl (fun k => k = ob) w10).drew).trans k3 (fun _ _ h => h)
    have H3 := hid (H1.out.outs (out' := pup s.out o.tw none) k3' ⟨_, hm3, mkeys_del_nodup nd _, fun k => by
      rw [mlook_del nd, hml]
      by_cases e : k = o.tw
      · rw [if_pos e, e, pup_me]; rfl
      · rw [if_neg e, pup_ne e]⟩)
    have T3 := hid (T1.out.keep k3' hob (fun e => H.out.n2 ((H.out.pa.foot m).2 (.inr (.inl e)))))
    have K3 := hid k3'
    clear hm3 k3 z3 k3' nd hml im
    go_wp2
    go_region
    have i0 := T3.out.com.c0
    have i2 : W3.cell? ⟨tb, 2, none⟩ = some (.int .i64 o.tw) := by rw [cell_of T3.out.head]; rfl
    have i5 : W3.cell? ⟨tb, 5, none⟩ = some (.int .u8 4) := by rw [cell_of T3.out.head]; rfl
    have z5 : W3.frozen? ⟨tb, 5, none⟩ = false := free_of T3.out.head 5
    obtain ⟨-, -, -, -, -, d5⟩ := H3.out.cells
    have wt : IntKind.i64.wrap (o.tw - 1) = o.tw - 1 := by rw [IntKind.wrap_i64]; omega
    have wg : IntKind.i64.wrap (g + 1) = g + 1 := by rw [IntKind.wrap_i64]; omega
    have q0 : 0 ≤ o.tw - 1 := by omega
    have q1 : o.tw - 1 < (c.nT : Int) := by omega
    have cg : W3.cell? ⟨gb, o.tw.toNat - 1, none⟩ = some (.int .i64 g) := by
      have h1 : (intsI s.gens)[o.tw.toNat - 1]? = some (.int .i64 g) := by unfold intsI; rw [List.getElem?_map, HG.out]; rfl
      rw [cell_of H3.out.gens]
      simpa using h1
    have zg : W3.frozen? ⟨gb, o.tw.toNat - 1, none⟩ = false := free_of H3.out.gens _
    clear d4 c0 j2 hrun
    go_wp2
    go_region
    go_wp2
    go_end0
    have kG : Keep (fun k => k = gb) W3 (W3.drew.setCell ⟨gb, o.tw.toNat - 1, none⟩ (.int .i64 (g + 1))) := ((Keep.refl (fun k => k = gb) W3).drew).setCell (.inl rfl) _
    have H4 := (H3.out.quiet ((Keep.refl Nil W3).drew)).setG (o.tw.toNat - 1) (g + 1)
    have T4 := T3.out.keep kG hgb (fun e => H.out.n2 ((H.out.pa.foot m).2 (.inr (.inr (.inl e)))))
    have kX : Keep (fun k => k = tb) (W3.drew.setCell ⟨gb, o.tw.toNat - 1, none⟩ (.int .i64 (g + 1))) ((W3.drew.setCell ⟨gb, o.tw.toNat - 1, none⟩ (.int .i64 (g + 1))).setCell ⟨tb, 5, none⟩ (.int .u8 0)) := (Keep.refl (fun k => k = tb) _).setCell (.inl rfl) _
    rw [H.out.hd.2] at H4
    refine ⟨rfl, A1, ⟨ob, gb, F1, G, H4.keep kX (fun k hk e => keepF FT0.out H.out.n1 HLT.out (e ▸ hk))⟩, T4.put (o' := { o with pc := 0 }) kX (set_same T4.head _) rfl, ?_, FT0.out⟩
    exact ((K0.out.trans (K3.out.mono (T := fun k => A k ∨ k = tb) (fun k _ e => .inl ((H.out.pa.foot k).2 (.inr (.inl e))))) (fun _ _ h => h)).trans (kG.mono (T := fun k => A k ∨ k = tb) (fun k _ e => .inl ((H.out.pa.foot k).2 (.inr (.inr (.inl e)))))) (fun _ _ h => h)).trans (kX.mono (T := fun k => A k ∨ k = tb) (fun _ _ e => .inr e)) (fun _ _ h => h)
end
end Go.Proofs.YtjghenomeindcaaGreat
