/- read: the parts of a step: word, end, by. -/
import Derived.Test.YtmafdjhjmnghcaaGreatRead
set_option linter.unusedVariables false
set_option linter.unusedSimpArgs false
namespace Go.Proofs.YtmafdjhjmnghcaaGreat
open Go.RowKit Go.Lf
attribute [local go_sem] fld0 fld1 fld2 fld3 fld4 fld5 fld6 fld7 fld8 fld9 fldc fldl
/-- A read and the store have turned. -/
def RTo (w : World) (A : Nat → Prop) (c : Cfg) (b mb : Nat) (ws : List Int) (log' : List Acc) (r : Nat) (s' : RS) (w' : World) : Prop :=
  ∃ A', (StoreL c b mb).lie w' A' (ws, log') ∧ ReadAt w' r b s' ∧ Keep (fun k => A k ∨ k = r) w w' ∧ Foot w A A'
section
variable {w w1 w2 : World} {A : Nat → Prop} {c : Cfg} {b mb L r : Nat} {F G : Nat → Prop} {ws : List Int} {log log' : List Acc} {s s' : RS}
theorem RTo.one (hr : ReadAt w r b s) (hA : ¬ A r) (ht : (StoreL c b mb).To w A (ws, log') w1) : ∃ A1 L1 F1 G1, SP w1 A1 c b mb L1 F1 G1 ws log' ∧ ¬ A1 r ∧ ReadAt w1 r b s ∧ Keep A w w1 ∧ Foot w A A1 := by
  obtain ⟨A1, ⟨L1, F1, G1, h1⟩, h2, h3⟩ := ht
  have hz := lt_of_block hr
  exact ⟨A1, L1, F1, G1, h1, fun e => (h3 r e).elim hA (fun e => by omega), hr.keep h2 hA, h2, h3⟩
theorem RTo.two {A1 : Nat → Prop} {L1 : Nat} {F1 G1 : Nat → Prop} (h1 : SP w1 A1 c b mb L1 F1 G1 ws log') (hA1 : ¬ A1 r) (k1 : Keep A w w1) (f1 : Foot w A A1) (h2 : ReadAt w2 r b s') (k2 : Keep (fun k => k = r) w1 w2) : RTo w A c b mb ws log' r s' w2 :=
  ⟨A1, ⟨L1, F1, G1, h1.keep k2 (fun k hk e => hA1 (e ▸ hk))⟩, h2, (k1.mono (T := fun k => A k ∨ k = r) (fun _ _ h => .inl h)).trans (k2.mono (T := fun k => A k ∨ k = r) (fun _ _ h => .inr h)) (fun _ _ h => h), f1⟩
set_option maxRecDepth 100000 in
set_option maxHeartbeats 4000000 in
theorem rword_ok (h : SP w A c b mb L F G ws log) (hok : c.ok) (hr : ReadAt w r b s) (hA : ¬ A r) {i : Nat} (hi : i < c.nT) (ht : s.tower = i + 1) (t0 : 0 ≤ s.th) (t1 : s.th < 64) (n : Int) (n0 : 0 ≤ n) (n1 : n ≤ 4) (x : Int) (hx : ws[c.tow i + n.toNat]? = some x) (hlog : log.length < 1000000000000) :
    Calls Tryz.prog 185 #[.pointer (some ⟨r, 0, none⟩), .int .i64 n] w fun e w' => e = .returned (.int .u64 x) ∧ (StoreL c b mb).To w A (ws, log ++ [⟨s.th, (c.tow i : Int) + n, 1, x, x, false⟩]) w' := by
  have H := hid h
  have HOK := hid hok
  have HX := hid hx
  have HI := hid hi
  have c0 : w.cell? ⟨r, 0, none⟩ = some (.pointer (some ⟨b, 0, none⟩)) := by rw [cell_of hr]; rfl
  have c1 : w.cell? ⟨r, 1, none⟩ = some (.int .i64 s.th) := by rw [cell_of hr]; rfl
  have c2 : w.cell? ⟨r, 2, none⟩ = some (.int .i64 s.tower) := by rw [cell_of hr]; rfl
  have HT := hid ht
  have HR := hid hr
  have HA := hid hA
  clear h hok hr hi hx ht hA
  go_enter Tryz.func185, Tryz.ntmps185
  have KD := hid ((Keep.refl Nil w).drew)
  go_wp2
  go_region_held3 (fun w' => w'.cell? ⟨r, 0, none⟩ = some (.pointer (some ⟨b, 0, none⟩)) ∧ w'.cell? ⟨r, 2, none⟩ = some (.int .i64 s.tower)) (go_keep)
    (first
      | (go_at_call 22; (with_reducible refine (blayout_ok (H.out.quiet KD.out)).mono ?_); rintro e w9 ⟨rfl, rfl⟩)
      | (go_at_call 87; (with_reducible refine (lword_ok (H.out.quiet KD.out).lay.at_ HOK.out HI.out s.tower n _ HT.out n0 n1 rfl).mono ?_); rintro e w9 ⟨rfl, rfl⟩))
  all_goals
    obtain ⟨X, hX⟩ : ∃ X, X = w.drew := ⟨_, rfl⟩
    have HKX := hid (show Keep Nil w X from by rw [hX]; exact KD.out)
    have d0 : X.cell? ⟨r, 0, none⟩ = some (.pointer (some ⟨b, 0, none⟩)) := by rw [hX]; exact c0
    have d1 : X.cell? ⟨r, 1, none⟩ = some (.int .i64 s.th) := by rw [hX]; exact c1
    rw [← hX]
    clear hX c0 c1 c2 KD
    have KD := hid (HKX.out.drew)
    go_wp2
    go_region_held3 (fun w' => w'.cell? ⟨r, 0, none⟩ = some (.pointer (some ⟨b, 0, none⟩)) ∧ w'.cell? ⟨r, 1, none⟩ = some (.int .i64 s.th)) (go_keep)
      (first
        | (go_at_call 24; (with_reducible refine (bmem_ok (H.out.quiet KD.out)).mono ?_); rintro e w9 ⟨rfl, rfl⟩)
        | (go_at_call 176; (with_reducible refine (load_ok (H.out.quiet KD.out).mem s.th ((c.tow i : Int) + n) x t0 t1 (by omega) (by rw [show ((c.tow i : Int) + n).toNat = c.tow i + n.toNat by omega]; exact HX.out) hlog).mono ?_); rintro e w10 ⟨rfl, hm⟩; have HM := hid (H.out.turn KD.out hm); obtain ⟨A1, L1, F1, G1, h1, n1', r1, k1, f1⟩ := RTo.one HR.out HA.out HM.out; have i0 : w10.cell? ⟨r, 0, none⟩ = some (.pointer (some ⟨b, 0, none⟩)) := (by rw [cell_of r1]; rfl); have i1 : w10.cell? ⟨r, 1, none⟩ = some (.int .i64 s.th) := (by rw [cell_of r1]; rfl); clear hm h1 r1 k1 f1))
    all_goals
      go_wp2
      go_ret
      exact ⟨rfl, HM.out⟩
set_option maxHeartbeats 4000000 in
theorem rend_ok (hr : ReadAt w r b s) (v : Int) (p : Bool) : Calls Tryz.prog 186 #[.pointer (some ⟨r, 0, none⟩), .int .u64 v, .bool p] w fun e w' => e = .returned (.tuple #[]) ∧ ReadAt w' r b (s.fin v p) ∧ Keep (fun k => k = r) w w' := by
  have HR := hid hr
  have f : ∀ i, w.frozen? ⟨r, i, none⟩ = false := fun i => free_of hr i
  have c6 : w.cell? ⟨r, 6, none⟩ = some (.int .u64 s.value) := by rw [cell_of hr]; rfl
  have c7 : w.cell? ⟨r, 7, none⟩ = some (.bool s.present) := by rw [cell_of hr]; rfl
  have c8 : w.cell? ⟨r, 8, none⟩ = some (.bool s.ended) := by rw [cell_of hr]; rfl
  have c9 : w.cell? ⟨r, 9, none⟩ = some (.int .u8 s.next) := by rw [cell_of hr]; rfl
  clear hr
  go_enter Tryz.func186, Tryz.ntmps186
  go_wp2
  go_end0
  refine ⟨rfl, ?_, ?_⟩
  · exact set_same (set_same (set_same (set_same HR.out _) _) _) _
  · exact ((((Keep.refl (fun k => k = r) w).setCell (.inl rfl) _).setCell (.inl rfl) _).setCell (.inl rfl) _).setCell (.inl rfl) _
set_option maxRecDepth 100000 in
set_option maxHeartbeats 8000000 in
theorem rby_ok (h : SP w A c b mb L F G ws log) (hok : c.ok) (hr : ReadAt w r b s) (hA : ¬ A r) (x : Int) (x0 : 0 ≤ x) (x1 : x < 18446744073709551616) :
    Calls Tryz.prog 184 #[.pointer (some ⟨r, 0, none⟩), .int .u64 x] w fun e w' => e = .returned (.tuple #[]) ∧ ReadAt w' r b (s.by c.lk x) ∧ Keep (fun k => k = r) w w' := by
  have HOK := hid hok
  have f : ∀ i, w.frozen? ⟨r, i, none⟩ = false := fun i => free_of hr i
  have c5 : w.cell? ⟨r, 5, none⟩ = some (.int .u64 s.state) := by rw [cell_of hr]; rfl
  have kX := (Keep.refl (fun k => k = r) w).setCell (p := ⟨r, 5, none⟩) (.inl rfl) (.int .u64 x)
  have rX : ReadAt (w.setCell ⟨r, 5, none⟩ (.int .u64 x)) r b { s with state := x } := set_same hr _
  have HSX := hid (h.keep kX (fun k hk e => hA (e ▸ hk)))
  obtain ⟨X, hX⟩ : ∃ X, X = w.setCell ⟨r, 5, none⟩ (.int .u64 x) := ⟨_, rfl⟩
  have HX := hid hX
  rw [← hX] at kX rX HSX
  have HKX := hid kX
  have HRX := hid rX
  obtain ⟨q, hq⟩ : ∃ q : RS, q = { s with state := x } := ⟨_, rfl⟩
  rw [← hq] at HRX
  have hby : s.by c.lk x = if byKind c.lk x = 0 ∨ byKind c.lk x = 2 then q.fin 0 false else if byKind c.lk x = 1 then { q with next := 25 } else { q with next := 24 } := by rw [hq]; rfl
  have HBY := hid hby
  have c0 : X.cell? ⟨r, 0, none⟩ = some (.pointer (some ⟨b, 0, none⟩)) := by rw [cell_of HRX.out]; rfl
  have c9 : X.cell? ⟨r, 9, none⟩ = some (.int .u8 q.next) := by rw [cell_of HRX.out]; rfl
  have fX : X.frozen? ⟨r, 9, none⟩ = false := free_of HRX.out 9
  clear h hok hr hA kX rX hX hq hby
  by_cases hv : fOk x = true
  · by_cases he : fEntry x < (c.lk : Int)
    · have hbk : byKind c.lk x = fKind x := if_pos ⟨hv, he⟩
      have de : decide ((c.lk : Int) ≤ fEntry x) = false := decide_eq_false (by omega)
      have hkk := fOk_kind hv
      obtain ⟨K, hK⟩ : ∃ K, K = fKind x := ⟨_, rfl⟩
      rw [← hK] at hbk hkk
      have HK := hid hK
      have HBK := hid hbk
      clear hK hbk he
      rcases hkk with rfl | rfl | rfl | rfl | rfl | rfl
      all_goals
        go_enter Tryz.func184, Tryz.ntmps184
        go_wp2_with fail
        rw [← HX.out]
        clear c5 f
        refine (fkind_ok x x0 x1).mono ?_
        rintro e w' ⟨rfl, rfl⟩
        rw [← HK.out]
        have KD := hid ((Keep.refl Nil X).drew)
        go_wp2_with fail
        go_region_held3 (fun w' => w'.cell? ⟨r, 0, none⟩ = some (.pointer (some ⟨b, 0, none⟩))) (go_keep)
          (first
            | (go_at_call 89; (with_reducible refine (fcheck_yes x x0 x1 hv).mono ?_); rintro e w9 ⟨rfl, rfl⟩)
            | (go_at_call 90; (with_reducible refine (fentry_ok x x0 x1).mono ?_); rintro e w9 ⟨rfl, rfl⟩)
            | (go_at_call 44; (with_reducible refine (bconfig_ok (HSX.out.quiet KD.out) HOK.out).mono ?_); rintro e w1 ⟨t1, t2, t3, t4, t5, t6, a, cp, rfl, hk1⟩; have K8 := hid (KD.out.trans hk1 (fun _ _ h => h)); have r8 := HRX.out.keep K8.out (fun h => h); have e0 : w1.cell? ⟨r, 0, none⟩ = some (.pointer (some ⟨b, 0, none⟩)) := (by rw [cell_of r8]; rfl); clear hk1 r8))
        all_goals
          have HR1 := hid (HRX.out.keep K8.out (fun h => h))
          have HK1 := hid (HKX.out.trans (K8.out.mono (T := fun k => k = r) (fun _ _ h => h.elim)) (fun _ _ h => h))
          have c91 : w1.cell? ⟨r, 9, none⟩ = some (.int .u8 q.next) := by rw [cell_of HR1.out]; rfl
          have f91 : w1.frozen? ⟨r, 9, none⟩ = false := free_of HR1.out 9
          clear c9 fX
          first
            | (go_wp2_with fail
               refine (rend_ok HR1.out 0 false).mono ?_
               rintro e w2 ⟨rfl, hr2, hk2⟩
               have HR2 := hid hr2
               have HK2 := hid (HK1.out.trans hk2 (fun _ _ h => h))
               clear hr2 hk2
               go_wp2
               go_end0
               exact ⟨rfl, by rw [HBY.out, HBK.out]; exact HR2.out, HK2.out⟩)
            | (go_wp2
               go_end0
               exact ⟨rfl, by rw [HBY.out, HBK.out]; exact set_same HR1.out _, HK1.out.setCell (.inl rfl) _⟩)
    · have hbk : byKind c.lk x = 2 := if_neg (fun h => he h.2)
      have de : decide ((c.lk : Int) ≤ fEntry x) = true := decide_eq_true (by omega)
      have HBK := hid hbk
      clear hbk he
      go_enter Tryz.func184, Tryz.ntmps184
      go_wp2_with fail
      rw [← HX.out]
      clear c5 f
      refine (fkind_ok x x0 x1).mono ?_
      rintro e w' ⟨rfl, rfl⟩
      have KD := hid ((Keep.refl Nil X).drew)
      go_wp2_with fail
      go_region_held3 (fun w' => w'.cell? ⟨r, 0, none⟩ = some (.pointer (some ⟨b, 0, none⟩))) (go_keep)
        (first
          | (go_at_call 89; (with_reducible refine (fcheck_yes x x0 x1 hv).mono ?_); rintro e w9 ⟨rfl, rfl⟩)
          | (go_at_call 90; (with_reducible refine (fentry_ok x x0 x1).mono ?_); rintro e w9 ⟨rfl, rfl⟩)
          | (go_at_call 44; (with_reducible refine (bconfig_ok (HSX.out.quiet KD.out) HOK.out).mono ?_); rintro e w1 ⟨t1, t2, t3, t4, t5, t6, a, cp, rfl, hk1⟩; have K8 := hid (KD.out.trans hk1 (fun _ _ h => h)); have r8 := HRX.out.keep K8.out (fun h => h); have e0 : w1.cell? ⟨r, 0, none⟩ = some (.pointer (some ⟨b, 0, none⟩)) := (by rw [cell_of r8]; rfl); clear hk1 r8))
      all_goals
        have HR1 := hid (HRX.out.keep K8.out (fun h => h))
        have HK1 := hid (HKX.out.trans (K8.out.mono (T := fun k => k = r) (fun _ _ h => h.elim)) (fun _ _ h => h))
        clear c9 fX
        go_wp2_with fail
        refine (rend_ok HR1.out 0 false).mono ?_
        rintro e w2 ⟨rfl, hr2, hk2⟩
        have HR2 := hid hr2
        have HK2 := hid (HK1.out.trans hk2 (fun _ _ h => h))
        clear hr2 hk2
        go_wp2
        go_end0
        exact ⟨rfl, by rw [HBY.out, HBK.out]; exact HR2.out, HK2.out⟩
  · have hbk : byKind c.lk x = 2 := if_neg (fun h => hv h.1)
    have hv' : fOk x = false := by simpa using hv
    have HBK := hid hbk
    clear hbk hv
    go_enter Tryz.func184, Tryz.ntmps184
    go_wp2_with fail
    rw [← HX.out]
    clear c5 f
    refine (fkind_ok x x0 x1).mono ?_
    rintro e w' ⟨rfl, rfl⟩
    go_wp2_with fail
    go_quiet ((go_at_call 89; exact quiet_eq (fcheck_no x x0 x1 hv')))
    go_wp2_with fail
    obtain ⟨Y, hY⟩ : ∃ Y : World, Y = X.drewN nq := ⟨_, rfl⟩
    have KY := hid (show Keep Nil X Y from by rw [hY]; exact (Keep.refl Nil X).drewN _)
    rw [← hY]
    clear hY
    have HR1 := hid (HRX.out.keep KY.out (fun h => h))
    have HK1 := hid (HKX.out.trans (KY.out.mono (T := fun k => k = r) (fun _ _ h => h.elim)) (fun _ _ h => h))
    refine (rend_ok HR1.out 0 false).mono ?_
    rintro e w2 ⟨rfl, hr2, hk2⟩
    have HR2 := hid hr2
    have HK2 := hid (HK1.out.trans hk2 (fun _ _ h => h))
    clear hr2 hk2
    go_wp2
    go_end0
    exact ⟨rfl, by rw [HBY.out, HBK.out]; exact HR2.out, HK2.out⟩
end
end Go.Proofs.YtmafdjhjmnghcaaGreat
