/- ranges: the steps of a locking. -/
import Derived.Test.YtmafdjhjmnghcaaGreatRng
set_option linter.unusedVariables false
set_option linter.unusedSimpArgs false
namespace Go.Proofs.YtmafdjhjmnghcaaGreat
open Go.RowKit Go.Lf
attribute [local go_sem] fld0 fld1 fld2 fld3 fld4 fld5 fld6 fld7 fld8 fld9 fldc fldl
def KActTo (w : World) (A : Nat → Prop) (c : Cfg) (b mb : Nat) (ws' : List Int) (log' : List Acc) (l sb m : Nat) (p : KS × Int) (e : Ending) (w' : World) : Prop :=
  e = .returned (.int .u8 p.2) ∧ KTo w A c b mb ws' log' l sb m p.1 w'
section
variable {w w1 w2 w' : World} {A : Nat → Prop} {c : Cfg} {b mb L l sb m : Nat} {F G : Nat → Prop} {ws ws' : List Int} {log log' : List Acc} {s s' : KS}
theorem KIn.act {A1 : Nat → Prop} {L1 : Nat} {F1 G1 : Nat → Prop} {s1 : KS} {p : KS × Int} {e : Ending} (h1 : KIn w1 A1 c b mb L1 l sb m F1 G1 ws' log' s1) (k1 : Keep A w w1) (f1 : Foot w A A1) {X : World} (kX : Keep (fun k => k = l) w1 X) (h : KMine X l sb m b p e w2) : KActTo w A c b mb ws' log' l sb m p e w2 :=
  ⟨h.1, KIn.two h1 k1 f1 h.2.1 (kX.trans h.2.2 (fun _ _ h => h))⟩
set_option maxRecDepth 100000 in
set_option maxHeartbeats 4000000 in
theorem kused_ok (h : KIn w A c b mb L l sb m F G ws log s) (e0 : 0 ≤ s.entry) (e1 : s.entry ≤ 16) (hf : 0 ≤ s.fails ∧ s.fails < 1000000) (hl : log.length + 1 < 1000000000) (x : Int) (hx : ws[c.locks + 3 * s.entry.toNat]? = some x) :
    Calls Tryz.prog 65 #[.pointer (some ⟨l, 0, none⟩)] w (KActTo w A c b mb ws (log ++ [⟨s.th, (c.locks : Int) + 3 * s.entry + 0, 1, x, x, false⟩]) l sb m (if x = 0 then ({ s with free := if s.free < 0 then s.entry else s.free } : KS).follow c.lk else (s, 38))) := by
  obtain ⟨p, hp⟩ : ∃ p, p = (if x = 0 then ({ s with free := if s.free < 0 then s.entry else s.free } : KS).follow c.lk else (s, 38)) := ⟨_, rfl⟩
  rw [← hp]
  have H := hid h
  have HX := hid hx
  have HF := hid hf
  have HL := hid hl
  have HE := hid (And.intro e0 e1)
  clear h hx hf hl e0 e1
  by_cases hx0 : x = 0
  · rw [if_pos hx0] at hp
    have dx : (x != 0) = false := by rw [hx0]; rfl
    by_cases hfr : s.free < 0
    · have df : decide (s.free < 0) = true := decide_eq_true hfr
      rw [if_pos hfr] at hp
      have HP := hid hp
      clear hx0 hfr hp
      go_enter Tryz.func65, Tryz.ntmps65
      go_wp2_with fail
      refine (kload_ok H.out 0 (by decide) (by decide) HE.out.1 HE.out.2 x HX.out).mono ?_
      rintro e w1 ⟨rfl, hto⟩
      obtain ⟨A1, L1, F1, G1, h1, k1, f1⟩ := H.out.one hto H.out.wd (by simp; exact HL.out)
      have H1 := hid h1
      have K1 := hid k1
      have F1' := hid f1
      have d6 : w1.cell? ⟨l, 6, none⟩ = some (.int .i64 s.entry) := by rw [cell_of h1.lk.head]; rfl
      have d7 : w1.cell? ⟨l, 7, none⟩ = some (.int .i64 s.free) := by rw [cell_of h1.lk.head]; rfl
      have z7 : w1.frozen? ⟨l, 7, none⟩ = false := free_of h1.lk.head 7
      obtain ⟨X, hX⟩ : ∃ X, X = w1.setCell ⟨l, 7, none⟩ (.int .i64 s.entry) := ⟨_, rfl⟩
      have kX : Keep (fun k => k = l) w1 X := hX ▸ (Keep.refl (fun k => k = l) w1).setCell (.inl rfl) _
      have HI := hid (h1.mine (s' := { s with free := s.entry }) kX (h1.lk.put kX (by rw [hX]; exact set_same h1.lk.head _) ⟨rfl, rfl⟩) rfl)
      have KX := hid kX
      clear hto h1 k1 f1 kX
      go_wp2_with fail
      rw [← hX]
      clear hX d6 d7 z7
      refine (kfollow_ok HI.out HE.out.1 HE.out.2 HF.out).mono ?_
      rintro e w2 ⟨rfl, hl2, hk2⟩
      have HM := hid (KIn.act (A := A) H1.out K1.out F1'.out KX.out ⟨rfl, hl2, hk2⟩)
      clear hl2 hk2
      go_wp2
      go_ret
      rw [HP.out]
      exact HM.out
    · have df : decide (s.free < 0) = false := decide_eq_false hfr
      rw [if_neg hfr] at hp
      have HP := hid (show p = s.follow c.lk from hp)
      clear hx0 hfr hp
      go_enter Tryz.func65, Tryz.ntmps65
      go_wp2_with fail
      refine (kload_ok H.out 0 (by decide) (by decide) HE.out.1 HE.out.2 x HX.out).mono ?_
      rintro e w1 ⟨rfl, hto⟩
      obtain ⟨A1, L1, F1, G1, h1, k1, f1⟩ := H.out.one hto H.out.wd (by simp; exact HL.out)
      have H1 := hid h1
      have K1 := hid k1
      have F1' := hid f1
      have d7 : w1.cell? ⟨l, 7, none⟩ = some (.int .i64 s.free) := by rw [cell_of h1.lk.head]; rfl
      clear hto h1 k1 f1
      go_wp2_with fail
      refine (kfollow_ok H1.out HE.out.1 HE.out.2 HF.out).mono ?_
      rintro e w2 ⟨rfl, hl2, hk2⟩
      have HM := hid (KIn.act (A := A) H1.out K1.out F1'.out (Keep.refl _ w1) ⟨rfl, hl2, hk2⟩)
      clear hl2 hk2
      go_wp2
      go_ret
      rw [HP.out]
      exact HM.out
  · have dx : (x != 0) = true := by simpa using hx0
    rw [if_neg hx0] at hp
    clear hx0
    subst hp
    go_enter Tryz.func65, Tryz.ntmps65
    go_wp2_with fail
    refine (kload_ok H.out 0 (by decide) (by decide) HE.out.1 HE.out.2 x HX.out).mono ?_
    rintro e w1 ⟨rfl, hto⟩
    obtain ⟨A1, L1, F1, G1, h1, k1, f1⟩ := H.out.one hto H.out.wd (by simp; exact HL.out)
    have HM := hid (KIn.two (A := A) h1 k1 f1 h1.lk (Keep.refl _ w1))
    clear hto h1 k1 f1
    go_wp2
    go_ret
    exact ⟨rfl, HM.out⟩
set_option maxRecDepth 100000 in
set_option maxHeartbeats 4000000 in
theorem klower_ok (h : KIn w A c b mb L l sb m F G ws log s) (e0 : 0 ≤ s.entry) (e1 : s.entry ≤ 16) (hl : log.length + 1 < 1000000000) (x : Int) (hx : ws[c.locks + 3 * s.entry.toNat + 1]? = some x) :
    Calls Tryz.prog 66 #[.pointer (some ⟨l, 0, none⟩)] w (KActTo w A c b mb ws (log ++ [⟨s.th, (c.locks : Int) + 3 * s.entry + 1, 1, x, x, false⟩]) l sb m ({ s with low := x }, 39)) := by
  have H := hid h
  have HX := hid hx
  have HL := hid hl
  clear h hx hl
  go_enter Tryz.func66, Tryz.ntmps66
  go_wp2_with fail
  refine (kload_ok H.out 1 (by decide) (by decide) e0 e1 x HX.out).mono ?_
  rintro e w1 ⟨rfl, hto⟩
  obtain ⟨A1, L1, F1, G1, h1, k1, f1⟩ := H.out.one hto H.out.wd (by simp; exact HL.out)
  have z8 : w1.frozen? ⟨l, 8, none⟩ = false := free_of h1.lk.head 8
  have d8 : w1.cell? ⟨l, 8, none⟩ = some (.int .u64 s.low) := by rw [cell_of h1.lk.head]; rfl
  have kX : Keep (fun k => k = l) w1 (w1.setCell ⟨l, 8, none⟩ (.int .u64 x)) := (Keep.refl (fun k => k = l) w1).setCell (.inl rfl) _
  have HM := hid (KIn.two (A := A) (s' := { s with low := x }) h1 k1 f1 (h1.lk.put kX (set_same h1.lk.head _) ⟨rfl, rfl⟩) kX)
  clear hto h1 k1 f1 kX
  go_wp2
  go_ret
  exact ⟨rfl, HM.out⟩
set_option maxHeartbeats 4000000 in
theorem koverlap_ok (h : LkAt w l sb m b s) (lo hi : Int) (q : Bool) (hq : q = (decide (lo ≤ s.hi) && decide (s.lo ≤ hi))) : Calls Tryz.prog 63 #[.int .u64 lo, .int .u64 hi, .pointer (some ⟨sb, 0, none⟩)] w fun e w' => e = .returned (.bool q) ∧ w = w' := by
  have c0 : w.cell? ⟨sb, 0, none⟩ = some (.int .u64 s.lo) := by rw [cell_of h.span]; rfl
  have c1 : w.cell? ⟨sb, 1, none⟩ = some (.int .u64 s.hi) := by rw [cell_of h.span]; rfl
  subst hq
  clear h
  by_cases h1 : lo ≤ s.hi
  · by_cases h2 : s.lo ≤ hi
    · have d1 : decide (lo ≤ s.hi) = true := decide_eq_true h1
      have d2 : decide (s.lo ≤ hi) = true := decide_eq_true h2
      rw [d1, d2]
      clear h1 h2
      go_enter Tryz.func63, Tryz.ntmps63
      go_wp2
      go_ret
      exact ⟨rfl, rfl⟩
    · have d1 : decide (lo ≤ s.hi) = true := decide_eq_true h1
      have d2 : decide (s.lo ≤ hi) = false := decide_eq_false h2
      rw [d1, d2]
      clear h1 h2
      go_enter Tryz.func63, Tryz.ntmps63
      go_wp2
      go_ret
      exact ⟨rfl, rfl⟩
  · have d1 : decide (lo ≤ s.hi) = false := decide_eq_false h1
    rw [d1]
    clear h1
    go_enter Tryz.func63, Tryz.ntmps63
    go_wp2
    go_ret
    exact ⟨rfl, rfl⟩
set_option maxRecDepth 100000 in
set_option maxHeartbeats 8000000 in
theorem khigher_ok (h : KIn w A c b mb L l sb m F G ws log s) (e0 : 0 ≤ s.entry) (e1 : s.entry ≤ 16) (hf : 0 ≤ s.fails ∧ s.fails < 1000000) (hl : log.length + 1 < 1000000000) (x : Int) (hx : ws[c.locks + 3 * s.entry.toNat + 2]? = some x) :
    Calls Tryz.prog 67 #[.pointer (some ⟨l, 0, none⟩)] w (KActTo w A c b mb ws (log ++ [⟨s.th, (c.locks : Int) + 3 * s.entry + 2, 1, x, x, false⟩]) l sb m (if s.low ≤ s.hi ∧ s.lo ≤ x then s.clash else s.follow c.lk)) := by
  obtain ⟨p, hp⟩ : ∃ p, p = (if s.low ≤ s.hi ∧ s.lo ≤ x then s.clash else s.follow c.lk) := ⟨_, rfl⟩
  rw [← hp]
  have H := hid h
  have HX := hid (show ws[c.locks + 3 * s.entry.toNat + (2 : Int).toNat]? = some x from hx)
  have HF := hid hf
  have HL := hid hl
  have HE := hid (And.intro e0 e1)
  have c8 : w.cell? ⟨l, 8, none⟩ = some (.int .u64 s.low) := by rw [cell_of h.lk.head]; rfl
  have c10 : w.cell? ⟨l, 10, none⟩ = some (.func (.func 63) #[] #[.pointer (some ⟨sb, 0, none⟩)]) := by rw [cell_of h.lk.head]; rfl
  have HD := hid (h.quiet (Keep.refl Nil w).drew)
  have KD := hid ((Keep.refl Nil w).drew)
  clear h hx hf hl e0 e1
  obtain ⟨q, hq⟩ : ∃ q, q = (decide (s.low ≤ s.hi) && decide (s.lo ≤ x)) := ⟨_, rfl⟩
  have HQ := hid hq
  have hp2 : p = if q = true then s.clash else s.follow c.lk := by
    rw [hp, hq]
    by_cases h1 : s.low ≤ s.hi ∧ s.lo ≤ x
    · rw [if_pos h1, if_pos (by simp [h1.1, h1.2])]
    · rw [if_neg h1, if_neg (by simpa using h1)]
  have HP := hid hp2
  clear hq hp hp2
  cases q with
  | true =>
    have HP2 := hid (show p = s.clash from by rw [HP.out]; rfl)
    clear HP
    go_enter Tryz.func67, Tryz.ntmps67
    go_wp2
    go_region_held3 (fun w' => w'.cell? ⟨l, 8, none⟩ = some (.int .u64 s.low) ∧ w'.cell? ⟨l, 10, none⟩ = some (.func (.func 63) #[] #[.pointer (some ⟨sb, 0, none⟩)])) (go_keep)
      (first
        | (go_at_call 127; (with_reducible refine (kload_ok HD.out 2 (by decide) (by decide) HE.out.1 HE.out.2 x HX.out).mono ?_); rintro e w9 ⟨rfl, hto⟩; obtain ⟨A1, L1, F1, G1, h1, k1, f1⟩ := HD.out.one hto HD.out.wd (by simp; exact HL.out); have H1 := hid h1; have K1 := hid k1; have F1' := hid f1; have j8 : w9.cell? ⟨l, 8, none⟩ = some (.int .u64 s.low) := (by rw [cell_of h1.lk.head]; rfl); have j10 : w9.cell? ⟨l, 10, none⟩ = some (.func (.func 63) #[] #[.pointer (some ⟨sb, 0, none⟩)]) := (by rw [cell_of h1.lk.head]; rfl); clear hto h1 k1 f1)
        | (go_at_call 63; (with_reducible refine (koverlap_ok H1.out.lk s.low x _ HQ.out).mono ?_); rintro e w8 ⟨rfl, rfl⟩))
    all_goals
      go_wp2_with fail
      refine (kclash_ok H1.out.lk HF.out).mono ?_
      rintro e w2 ⟨rfl, hl2, hk2⟩
      have hm := KIn.act (A := A) H1.out K1.out F1'.out (Keep.refl _ w9) ⟨rfl, hl2, hk2⟩
      have HM := hid (show KActTo w A c b mb ws (log ++ [⟨s.th, (c.locks : Int) + 3 * s.entry + 2, 1, x, x, false⟩]) l sb m s.clash _ w2 from ⟨rfl, by
        obtain ⟨-, A', q1, q2, q3, q4⟩ := hm
        exact ⟨A', q1, q2, (KD.out.mono (fun _ _ h => h.elim)).trans q3 (fun _ _ h => h), q4⟩⟩)
      clear hl2 hk2 hm
      go_wp2
      go_ret
      rw [HP2.out]
      exact HM.out
  | false =>
    have HP2 := hid (show p = s.follow c.lk from by rw [HP.out]; rfl)
    clear HP
    go_enter Tryz.func67, Tryz.ntmps67
    go_wp2
    go_region_held3 (fun w' => w'.cell? ⟨l, 8, none⟩ = some (.int .u64 s.low) ∧ w'.cell? ⟨l, 10, none⟩ = some (.func (.func 63) #[] #[.pointer (some ⟨sb, 0, none⟩)])) (go_keep)
      (first
        | (go_at_call 127; (with_reducible refine (kload_ok HD.out 2 (by decide) (by decide) HE.out.1 HE.out.2 x HX.out).mono ?_); rintro e w9 ⟨rfl, hto⟩; obtain ⟨A1, L1, F1, G1, h1, k1, f1⟩ := HD.out.one hto HD.out.wd (by simp; exact HL.out); have H1 := hid h1; have K1 := hid k1; have F1' := hid f1; have j8 : w9.cell? ⟨l, 8, none⟩ = some (.int .u64 s.low) := (by rw [cell_of h1.lk.head]; rfl); have j10 : w9.cell? ⟨l, 10, none⟩ = some (.func (.func 63) #[] #[.pointer (some ⟨sb, 0, none⟩)]) := (by rw [cell_of h1.lk.head]; rfl); clear hto h1 k1 f1)
        | (go_at_call 63; (with_reducible refine (koverlap_ok H1.out.lk s.low x _ HQ.out).mono ?_); rintro e w8 ⟨rfl, rfl⟩))
    all_goals
      go_wp2_with fail
      refine (kfollow_ok H1.out HE.out.1 HE.out.2 HF.out).mono ?_
      rintro e w2 ⟨rfl, hl2, hk2⟩
      have hm := KIn.act (A := A) H1.out K1.out F1'.out (Keep.refl _ w9) ⟨rfl, hl2, hk2⟩
      have HM := hid (show KActTo w A c b mb ws (log ++ [⟨s.th, (c.locks : Int) + 3 * s.entry + 2, 1, x, x, false⟩]) l sb m (s.follow c.lk) _ w2 from ⟨rfl, by
        obtain ⟨-, A', q1, q2, q3, q4⟩ := hm
        exact ⟨A', q1, q2, (KD.out.mono (fun _ _ h => h.elim)).trans q3 (fun _ _ h => h), q4⟩⟩)
      clear hl2 hk2 hm
      go_wp2
      go_ret
      rw [HP2.out]
      exact HM.out
set_option maxRecDepth 100000 in
set_option maxHeartbeats 4000000 in
theorem ksetLow_ok (h : KIn w A c b mb L l sb m F G ws log s) (e0 : 0 ≤ s.free) (e1 : s.free ≤ 16) (v0 : 0 ≤ s.lo ∧ s.lo < 18446744073709551616) (hl : log.length + 1 < 1000000000) (x : Int) (hx : ws[c.locks + 3 * s.free.toNat + 1]? = some x) :
    Calls Tryz.prog 68 #[.pointer (some ⟨l, 0, none⟩)] w (KActTo w A c b mb (ws.set (c.locks + 3 * s.free.toNat + 1) s.lo) (log ++ [⟨s.th, (c.locks : Int) + 3 * s.free + 1, 2, x, s.lo, false⟩]) l sb m (s, 41)) := by
  have H := hid h
  have HX := hid hx
  have HL := hid hl
  have c2 : w.cell? ⟨l, 2, none⟩ = some (.int .u64 s.lo) := by rw [cell_of h.lk.head]; rfl
  clear h hx hl
  go_enter Tryz.func68, Tryz.ntmps68
  go_wp2_with fail
  refine (kstore_ok H.out 1 (by decide) (by decide) e0 e1 s.lo x HX.out).mono ?_
  rintro e w1 ⟨rfl, hto⟩
  obtain ⟨A1, L1, F1, G1, h1, k1, f1⟩ := H.out.one hto (H.out.wd.set _ v0.1 v0.2) (by simp; exact HL.out)
  have HM := hid (KIn.two (A := A) h1 k1 f1 h1.lk (Keep.refl _ w1))
  clear hto h1 k1 f1
  go_wp2
  go_ret
  exact ⟨rfl, HM.out⟩
set_option maxRecDepth 100000 in
set_option maxHeartbeats 4000000 in
theorem ksetHigh_ok (h : KIn w A c b mb L l sb m F G ws log s) (e0 : 0 ≤ s.free) (e1 : s.free ≤ 16) (v0 : 0 ≤ s.hi ∧ s.hi < 18446744073709551616) (hl : log.length + 1 < 1000000000) (x : Int) (hx : ws[c.locks + 3 * s.free.toNat + 2]? = some x) :
    Calls Tryz.prog 69 #[.pointer (some ⟨l, 0, none⟩)] w (KActTo w A c b mb (ws.set (c.locks + 3 * s.free.toNat + 2) s.hi) (log ++ [⟨s.th, (c.locks : Int) + 3 * s.free + 2, 2, x, s.hi, false⟩]) l sb m (s, 42)) := by
  have H := hid h
  have HX := hid hx
  have HL := hid hl
  have c3 : w.cell? ⟨l, 3, none⟩ = some (.int .u64 s.hi) := by rw [cell_of h.lk.head]; rfl
  clear h hx hl
  go_enter Tryz.func69, Tryz.ntmps69
  go_wp2_with fail
  refine (kstore_ok H.out 2 (by decide) (by decide) e0 e1 s.hi x HX.out).mono ?_
  rintro e w1 ⟨rfl, hto⟩
  obtain ⟨A1, L1, F1, G1, h1, k1, f1⟩ := H.out.one hto (H.out.wd.set _ v0.1 v0.2) (by simp; exact HL.out)
  have HM := hid (KIn.two (A := A) h1 k1 f1 h1.lk (Keep.refl _ w1))
  clear hto h1 k1 f1
  go_wp2
  go_ret
  exact ⟨rfl, HM.out⟩
set_option maxRecDepth 100000 in
set_option maxHeartbeats 4000000 in
theorem ksetUsed_ok (h : KIn w A c b mb L l sb m F G ws log s) (e0 : 0 ≤ s.free) (e1 : s.free ≤ 16) (hl : log.length + 1 < 1000000000) (x : Int) (hx : ws[c.locks + 3 * s.free.toNat]? = some x) :
    Calls Tryz.prog 70 #[.pointer (some ⟨l, 0, none⟩)] w (KActTo w A c b mb (ws.set (c.locks + 3 * s.free.toNat) 1) (log ++ [⟨s.th, (c.locks : Int) + 3 * s.free + 0, 2, x, 1, false⟩]) l sb m (s, 3)) := by
  have H := hid h
  have HX := hid hx
  have HL := hid hl
  clear h hx hl
  go_enter Tryz.func70, Tryz.ntmps70
  go_wp2_with fail
  refine (kstore_ok H.out 0 (by decide) (by decide) e0 e1 1 x HX.out).mono ?_
  rintro e w1 ⟨rfl, hto⟩
  obtain ⟨A1, L1, F1, G1, h1, k1, f1⟩ := H.out.one hto (H.out.wd.set _ (by decide) (by decide)) (by simp; exact HL.out)
  have HM := hid (KIn.two (A := A) h1 k1 f1 h1.lk (Keep.refl _ w1))
  clear hto h1 k1 f1
  go_wp2
  go_ret
  exact ⟨rfl, HM.out⟩
end
end Go.Proofs.YtmafdjhjmnghcaaGreat
