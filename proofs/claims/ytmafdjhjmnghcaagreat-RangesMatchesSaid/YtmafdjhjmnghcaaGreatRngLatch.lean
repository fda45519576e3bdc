/- ranges: latch and unlatch. -/
import Derived.Test.YtmafdjhjmnghcaaGreatRngAct
set_option linter.unusedVariables false
set_option linter.unusedSimpArgs false
namespace Go.Proofs.YtmafdjhjmnghcaaGreat
open Go.RowKit Go.Lf
attribute [local go_sem] fld0 fld1 fld2 fld3 fld4 fld5 fld6 fld7 fld8 fld9 fldc fldl
section
variable {w w1 w2 w' : World} {A : Nat → Prop} {c : Cfg} {b mb L l sb m : Nat} {F G : Nat → Prop} {ws ws' : List Int} {log log' : List Acc} {s s' : KS}
theorem KActTo.before {w0 : World} {p : KS × Int} {e : Ending} (h : KActTo w A c b mb ws' log' l sb m p e w') (hk : Keep Nil w0 w) (hA : ∀ k, A k → k < w0.heap.size) : KActTo w0 A c b mb ws' log' l sb m p e w' := by
  obtain ⟨he, A', q1, q2, q3, q4⟩ := h
  exact ⟨he, A', q1, q2, (hk.mono (fun _ _ h => h.elim)).trans q3 (fun _ _ h => h), fun k e => (q4 k e).imp id (fun e => by have := hk.size; omega)⟩
set_option maxRecDepth 100000 in
set_option maxHeartbeats 8000000 in
theorem klatch_yes (h : KIn w A c b mb L l sb m F G ws log s) (hl : log.length + 1 < 1000000000) (hx : ws[c.master]? = some 0) :
    Calls Tryz.prog 64 #[.pointer (some ⟨l, 0, none⟩)] w (KActTo w A c b mb (ws.set c.master (s.th + 1)) (log ++ [⟨s.th, (c.master : Int), 4, 0, s.th + 1, true⟩]) l sb m ({ s with entry := 0, free := -1, conf := false }, 37)) := by
  have H := hid h
  have HX := hid (show ws[((c.master : Nat) : Int).toNat]? = some 0 by rw [Int.toNat_natCast]; exact hx)
  have HM0 := hid (show (0 : Int) ≤ ((c.master : Nat) : Int) by omega)
  have HL := hid hl
  have c0 : w.cell? ⟨l, 0, none⟩ = some (.pointer (some ⟨b, 0, none⟩)) := by rw [cell_of h.lk.head]; rfl
  have c1 : w.cell? ⟨l, 1, none⟩ = some (.int .i64 s.th) := by rw [cell_of h.lk.head]; rfl
  have t0 := h.t0
  have t1 := h.t1
  have wt : IntKind.u64.wrap s.th = s.th := by rw [IntKind.wrap_u64]; omega
  have wt1 : IntKind.u64.wrap (s.th + 1) = s.th + 1 := by rw [IntKind.wrap_u64]; omega
  clear h hx hl
  go_enter Tryz.func64, Tryz.ntmps64
  have KD := hid ((Keep.refl Nil w).drew)
  go_wp2
  go_region_held3 (fun w' => w'.cell? ⟨l, 0, none⟩ = some (.pointer (some ⟨b, 0, none⟩)) ∧ w'.cell? ⟨l, 1, none⟩ = some (.int .i64 s.th)) (go_keep)
    (first
      | (go_at_call 24; (with_reducible refine (bmem_ok (H.out.sp.quiet KD.out)).mono ?_); rintro e w9 ⟨rfl, rfl⟩)
      | (go_at_call 22; (with_reducible refine (blayout_ok (H.out.sp.quiet KD.out)).mono ?_); rintro e w9 ⟨rfl, rfl⟩)
      | (go_at_call 23; (with_reducible refine (places_ok (H.out.sp.quiet KD.out).lay.at_).mono ?_); rintro e w8 ⟨rfl, hk8⟩; have K8 := hid (KD.out.trans hk8 (fun _ _ h => h)); have r8 := H.out.lk.quiet K8.out; have i0 : w8.cell? ⟨l, 0, none⟩ = some (.pointer (some ⟨b, 0, none⟩)) := (by rw [cell_of r8.head]; rfl); have i1 : w8.cell? ⟨l, 1, none⟩ = some (.int .i64 s.th) := (by rw [cell_of r8.head]; rfl); clear hk8 r8)
      | (go_at_call 125; (with_reducible refine (cas_yes (H.out.sp.quiet K8.out).mem s.th ((c.master : Nat) : Int) 0 (s.th + 1) t0 t1 HM0.out HX.out (Nat.lt_trans H.out.lg (by decide))).mono ?_); rintro e w10 ⟨rfl, hm⟩; rw [Int.toNat_natCast] at hm; obtain ⟨A1, L1, F1, G1, h1, k1, f1⟩ := H.out.one (H.out.sp.turn K8.out hm) (H.out.wd.set _ (by omega) (by omega)) (by simp; exact HL.out); have H1 := hid h1; have K1 := hid k1; have F1' := hid f1; have j0 : w10.cell? ⟨l, 0, none⟩ = some (.pointer (some ⟨b, 0, none⟩)) := (by rw [cell_of h1.lk.head]; rfl); have j1 : w10.cell? ⟨l, 1, none⟩ = some (.int .i64 s.th) := (by rw [cell_of h1.lk.head]; rfl); clear hm h1 k1 f1))
  all_goals
    have z6 : w10.frozen? ⟨l, 6, none⟩ = false := free_of H1.out.lk.head 6
    have z7 : w10.frozen? ⟨l, 7, none⟩ = false := free_of H1.out.lk.head 7
    have z9 : w10.frozen? ⟨l, 9, none⟩ = false := free_of H1.out.lk.head 9
    have y6 : w10.cell? ⟨l, 6, none⟩ = some (.int .i64 s.entry) := by rw [cell_of H1.out.lk.head]; rfl
    have y7 : w10.cell? ⟨l, 7, none⟩ = some (.int .i64 s.free) := by rw [cell_of H1.out.lk.head]; rfl
    have y9 : w10.cell? ⟨l, 9, none⟩ = some (.bool s.conf) := by rw [cell_of H1.out.lk.head]; rfl
    have kX : Keep (fun k => k = l) w10 (((w10.setCell ⟨l, 6, none⟩ (.int .i64 0)).setCell ⟨l, 7, none⟩ (.int .i64 (-1))).setCell ⟨l, 9, none⟩ (.bool false)) := (((Keep.refl (fun k => k = l) w10).setCell (.inl rfl) _).setCell (.inl rfl) _).setCell (.inl rfl) _
    have HT := hid (KIn.two (A := A) (s' := { s with entry := 0, free := -1, conf := false }) H1.out K1.out F1'.out (H1.out.lk.put kX (set_same (set_same (set_same H1.out.lk.head _) _) _) ⟨rfl, rfl⟩) kX)
    clear kX
    go_wp2
    go_ret
    exact ⟨rfl, HT.out⟩
set_option maxRecDepth 100000 in
set_option maxHeartbeats 8000000 in
theorem klatch_no (h : KIn w A c b mb L l sb m F G ws log s) (hf : 0 ≤ s.fails ∧ s.fails < 1000000) (hl : log.length + 1 < 1000000000) (x : Int) (hx0 : x ≠ 0) (hx : ws[c.master]? = some x) :
    Calls Tryz.prog 64 #[.pointer (some ⟨l, 0, none⟩)] w (KActTo w A c b mb ws (log ++ [⟨s.th, (c.master : Int), 4, x, x, false⟩]) l sb m ({ s with fails := s.fails + 1 } : KS).again) := by
  have H := hid h
  have HX := hid (show ws[((c.master : Nat) : Int).toNat]? = some x by rw [Int.toNat_natCast]; exact hx)
  have HM0 := hid (show (0 : Int) ≤ ((c.master : Nat) : Int) by omega)
  have HL := hid hl
  have HX0 := hid hx0
  have c0 : w.cell? ⟨l, 0, none⟩ = some (.pointer (some ⟨b, 0, none⟩)) := by rw [cell_of h.lk.head]; rfl
  have c1 : w.cell? ⟨l, 1, none⟩ = some (.int .i64 s.th) := by rw [cell_of h.lk.head]; rfl
  have t0 := h.t0
  have t1 := h.t1
  have wt : IntKind.u64.wrap s.th = s.th := by rw [IntKind.wrap_u64]; omega
  have wt1 : IntKind.u64.wrap (s.th + 1) = s.th + 1 := by rw [IntKind.wrap_u64]; omega
  have wf : IntKind.i64.wrap (s.fails + 1) = s.fails + 1 := by rw [IntKind.wrap_i64]; omega
  clear h hx hl hx0
  go_enter Tryz.func64, Tryz.ntmps64
  have KD := hid ((Keep.refl Nil w).drew)
  go_wp2
  go_region_held3 (fun w' => w'.cell? ⟨l, 0, none⟩ = some (.pointer (some ⟨b, 0, none⟩)) ∧ w'.cell? ⟨l, 1, none⟩ = some (.int .i64 s.th)) (go_keep)
    (first
      | (go_at_call 24; (with_reducible refine (bmem_ok (H.out.sp.quiet KD.out)).mono ?_); rintro e w9 ⟨rfl, rfl⟩)
      | (go_at_call 22; (with_reducible refine (blayout_ok (H.out.sp.quiet KD.out)).mono ?_); rintro e w9 ⟨rfl, rfl⟩)
      | (go_at_call 23; (with_reducible refine (places_ok (H.out.sp.quiet KD.out).lay.at_).mono ?_); rintro e w8 ⟨rfl, hk8⟩; have K8 := hid (KD.out.trans hk8 (fun _ _ h => h)); have r8 := H.out.lk.quiet K8.out; have i0 : w8.cell? ⟨l, 0, none⟩ = some (.pointer (some ⟨b, 0, none⟩)) := (by rw [cell_of r8.head]; rfl); have i1 : w8.cell? ⟨l, 1, none⟩ = some (.int .i64 s.th) := (by rw [cell_of r8.head]; rfl); clear hk8 r8)
      | (go_at_call 125; (with_reducible refine (cas_no (H.out.sp.quiet K8.out).mem s.th ((c.master : Nat) : Int) x 0 (s.th + 1) t0 t1 HM0.out HX.out HX0.out (Nat.lt_trans H.out.lg (by decide))).mono ?_); rintro e w10 ⟨rfl, hm⟩; obtain ⟨A1, L1, F1, G1, h1, k1, f1⟩ := H.out.one (H.out.sp.turn K8.out hm) H.out.wd (by simp; exact HL.out); have H1 := hid h1; have K1 := hid k1; have F1' := hid f1; have j0 : w10.cell? ⟨l, 0, none⟩ = some (.pointer (some ⟨b, 0, none⟩)) := (by rw [cell_of h1.lk.head]; rfl); have j1 : w10.cell? ⟨l, 1, none⟩ = some (.int .i64 s.th) := (by rw [cell_of h1.lk.head]; rfl); clear hm h1 k1 f1))
  all_goals
    have z5 : w10.frozen? ⟨l, 5, none⟩ = false := free_of H1.out.lk.head 5
    have y5 : w10.cell? ⟨l, 5, none⟩ = some (.int .i64 s.fails) := by rw [cell_of H1.out.lk.head]; rfl
    obtain ⟨X, hX⟩ : ∃ X, X = w10.setCell ⟨l, 5, none⟩ (.int .i64 (s.fails + 1)) := ⟨_, rfl⟩
    have kX : Keep (fun k => k = l) w10 X := hX ▸ (Keep.refl (fun k => k = l) w10).setCell (.inl rfl) _
    have HLX := hid (H1.out.lk.put (s' := { s with fails := s.fails + 1 }) kX (by rw [hX]; exact set_same H1.out.lk.head _) ⟨rfl, rfl⟩)
    have KX := hid kX
    clear kX
    go_wp2_with fail
    rw [← hX]
    clear hX z5 y5
    refine (kagain_ok HLX.out).mono ?_
    rintro e w11 hm
    have he := hm.1
    have HT := hid (KIn.act (A := A) H1.out K1.out F1'.out KX.out hm)
    subst he
    clear hm
    go_wp2
    go_ret
    exact HT.out
set_option maxRecDepth 100000 in
set_option maxHeartbeats 8000000 in
theorem kunlatch_ok (h : KIn w A c b mb L l sb m F G ws log s) (hl : log.length + 1 < 1000000000) (x : Int) (hx : ws[c.master]? = some x) :
    Calls Tryz.prog 71 #[.pointer (some ⟨l, 0, none⟩)] w (KActTo w A c b mb (ws.set c.master 0) (log ++ [⟨s.th, (c.master : Int), 2, x, 0, false⟩]) l sb m (if s.conf = true then s.again else (s, 0))) := by
  have H := hid h
  have HX := hid (show ws[((c.master : Nat) : Int).toNat]? = some x by rw [Int.toNat_natCast]; exact hx)
  have HM0 := hid (show (0 : Int) ≤ ((c.master : Nat) : Int) by omega)
  have HL := hid hl
  have c0 : w.cell? ⟨l, 0, none⟩ = some (.pointer (some ⟨b, 0, none⟩)) := by rw [cell_of h.lk.head]; rfl
  have c1 : w.cell? ⟨l, 1, none⟩ = some (.int .i64 s.th) := by rw [cell_of h.lk.head]; rfl
  have t0 := h.t0
  have t1 := h.t1
  clear h hx hl
  obtain ⟨q, hq⟩ : ∃ q, q = s.conf := ⟨_, rfl⟩
  obtain ⟨p, hp⟩ : ∃ p, p = (if s.conf = true then s.again else (s, 0)) := ⟨_, rfl⟩
  rw [← hp]
  have HP := hid (show p = if q = true then s.again else (s, 0) by rw [hp, hq])
  have HQ := hid hq
  clear hp hq
  cases q
  all_goals
    go_enter Tryz.func71, Tryz.ntmps71
    have KD := hid ((Keep.refl Nil w).drew)
    go_wp2
    go_region_held3 (fun w' => w'.cell? ⟨l, 0, none⟩ = some (.pointer (some ⟨b, 0, none⟩)) ∧ w'.cell? ⟨l, 1, none⟩ = some (.int .i64 s.th)) (go_keep)
      (first
        | (go_at_call 24; (with_reducible refine (bmem_ok (H.out.sp.quiet KD.out)).mono ?_); rintro e w9 ⟨rfl, rfl⟩)
        | (go_at_call 22; (with_reducible refine (blayout_ok (H.out.sp.quiet KD.out)).mono ?_); rintro e w9 ⟨rfl, rfl⟩)
        | (go_at_call 23; (with_reducible refine (places_ok (H.out.sp.quiet KD.out).lay.at_).mono ?_); rintro e w8 ⟨rfl, hk8⟩; have K8 := hid (KD.out.trans hk8 (fun _ _ h => h)); have r8 := H.out.lk.quiet K8.out; have i0 : w8.cell? ⟨l, 0, none⟩ = some (.pointer (some ⟨b, 0, none⟩)) := (by rw [cell_of r8.head]; rfl); have i1 : w8.cell? ⟨l, 1, none⟩ = some (.int .i64 s.th) := (by rw [cell_of r8.head]; rfl); clear hk8 r8)
        | (go_at_call 25; (with_reducible refine (store_ok (H.out.sp.quiet K8.out).mem s.th ((c.master : Nat) : Int) x 0 t0 t1 HM0.out HX.out (Nat.lt_trans H.out.lg (by decide))).mono ?_); rintro e w10 ⟨rfl, hm⟩; rw [Int.toNat_natCast] at hm; obtain ⟨A1, L1, F1, G1, h1, k1, f1⟩ := H.out.one (H.out.sp.turn K8.out hm) (H.out.wd.set _ (by decide) (by decide)) (by simp; exact HL.out); have H1 := hid h1; have K1 := hid k1; have F1' := hid f1; have j0 : w10.cell? ⟨l, 0, none⟩ = some (.pointer (some ⟨b, 0, none⟩)) := (by rw [cell_of h1.lk.head]; rfl); have j1 : w10.cell? ⟨l, 1, none⟩ = some (.int .i64 s.th) := (by rw [cell_of h1.lk.head]; rfl); clear hm h1 k1 f1))
  · have y9 : w10.cell? ⟨l, 9, none⟩ = some (.bool false) := by rw [cell_of H1.out.lk.head, HQ.out]; rfl
    have HT := hid (KIn.two (A := A) H1.out K1.out F1'.out H1.out.lk (Keep.refl _ w10))
    have HP2 := hid (show p = (s, 0) from by rw [HP.out]; rfl)
    clear HP
    go_wp2
    go_ret
    rw [HP2.out]
    exact ⟨rfl, HT.out⟩
  · have y9 : w10.cell? ⟨l, 9, none⟩ = some (.bool true) := by rw [cell_of H1.out.lk.head, HQ.out]; rfl
    have HP2 := hid (show p = s.again from by rw [HP.out]; rfl)
    clear HP
    go_wp2_with fail
    refine (kagain_ok H1.out.lk).mono ?_
    rintro e w11 hm
    have he := hm.1
    have HT := hid (KIn.act (A := A) H1.out K1.out F1'.out (Keep.refl _ w10) hm)
    subst he
    clear hm
    go_wp2
    go_ret
    rw [HP2.out]
    exact HT.out
end
end Go.Proofs.YtmafdjhjmnghcaaGreat
