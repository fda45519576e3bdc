/- leapfrogref01: states and descriptors: the contracts. -/
import Derived.Test.YtmafdjhjmnghcaaGreatField
import Derived.Test.YtmafdjhjmnghcaaGreatReadFP
import Derived.Deep.RegionHeld3
import Derived.Test.YtmafdjhjmnghcaaGreatSame
set_option linter.unusedVariables false
set_option linter.unusedSimpArgs false
namespace Go.Proofs.YtmafdjhjmnghcaaGreat
open Go.RowKit Go.Lf
section
variable {w : World}
set_option maxHeartbeats 2000000 in
theorem r1kind (x : Int) (h0 : 0 ≤ x) (h1 : x < 18446744073709551616) : Calls Tryz.prog 172 #[.int .u64 x] w fun e w' => e = .returned (.int .u8 (fKind x)) ∧ w = w' := by
  have e1 : IntKind.u8.wrap (x.tmod 8) = fKind x := f_tmod8 h0
  have e2 : IntKind.u8.wrap (x % 8) = fKind x := by rw [IntKind.wrap_u8]; unfold fKind; omega
  go_enter Tryz.func172, Tryz.ntmps172
  go_wp2
  go_ret
  exact ⟨rfl, rfl⟩
set_option maxHeartbeats 2000000 in
theorem r1entry (x : Int) (h0 : 0 ≤ x) (h1 : x < 18446744073709551616) : Calls Tryz.prog 122 #[.int .u64 x] w fun e w' => e = .returned (.int .i64 (fEntry x)) ∧ w = w' := by
  have e1 : IntKind.i64.wrap ((x.tmod 65536).tdiv 8) = fEntry x := by rw [Int.tmod_eq_emod_of_nonneg h0, Int.tdiv_eq_ediv_of_nonneg (by omega), IntKind.wrap_i64]; unfold fEntry; omega
  have e2 : IntKind.i64.wrap (x % 65536 / 8) = fEntry x := by rw [IntKind.wrap_i64]; unfold fEntry; omega
  have e3 : IntKind.i64.wrap ((x % 65536).tdiv 8) = fEntry x := by rw [Int.tdiv_eq_ediv_of_nonneg (by omega)]; exact e2
  go_enter Tryz.func122, Tryz.ntmps122
  go_wp2
  go_ret
  exact ⟨rfl, rfl⟩
set_option maxHeartbeats 2000000 in
theorem r1gen (x : Int) (h0 : 0 ≤ x) (h1 : x < 18446744073709551616) : Calls Tryz.prog 201 #[.int .u64 x] w fun e w' => e = .returned (.int .u64 (fGen x)) ∧ w = w' := by
  have e1 : x.tdiv 65536 = fGen x := by rw [Int.tdiv_eq_ediv_of_nonneg h0]; rfl
  have e2 : IntKind.u64.wrap (fGen x) = fGen x := by have := fGen_rng h0 h1; rw [IntKind.wrap_u64]; omega
  go_enter Tryz.func201, Tryz.ntmps201
  go_wp2
  go_ret
  exact ⟨rfl, rfl⟩
set_option maxHeartbeats 2000000 in
theorem r1dgen (x : Int) (h0 : 0 ≤ x) (h1 : x < 18446744073709551616) : Calls Tryz.prog 173 #[.int .u64 x] w fun e w' => e = .returned (.int .u64 (x / 2)) ∧ w = w' := by
  have e1 : x.tdiv 2 = x / 2 := Int.tdiv_eq_ediv_of_nonneg h0
  have e2 : IntKind.u64.wrap (x / 2) = x / 2 := by rw [IntKind.wrap_u64]; omega
  go_enter Tryz.func173, Tryz.ntmps173
  go_wp2
  go_ret
  exact ⟨rfl, rfl⟩
set_option maxHeartbeats 2000000 in
theorem r1comm (x : Int) (h0 : 0 ≤ x) (h1 : x < 18446744073709551616) : Calls Tryz.prog 202 #[.int .u64 x] w fun e w' => e = .returned (.bool (x % 2 == 1)) ∧ w = w' := by
  have e1 : x.tmod 2 = x % 2 := Int.tmod_eq_emod_of_nonneg h0
  have e2 : IntKind.u64.wrap (x % 2) = x % 2 := by rw [IntKind.wrap_u64]; omega
  go_enter Tryz.func202, Tryz.ntmps202
  go_wp2
  go_ret
  exact ⟨rfl, rfl⟩
def plainB (k : Int) : Bool := k == 0 || k == 1 || k == 2
set_option maxHeartbeats 2000000 in
theorem r1plain (k : Int) (p : Bool) (hp : plainB k = p) : Calls Tryz.prog 222 #[.int .u8 k] w fun e w' => e = .returned (.bool p) ∧ w = w' := by
  cases h0 : (k == 0) with
  | true =>
    have e : p = true := by rw [← hp]; unfold plainB; rw [h0]; rfl
    subst e
    go_enter Tryz.func222, Tryz.ntmps222
    go_wp2
    go_ret
    exact ⟨rfl, rfl⟩
  | false =>
    cases h1 : (k == 1) with
    | true =>
      have e : p = true := by rw [← hp]; unfold plainB; rw [h0, h1]; rfl
      subst e
      go_enter Tryz.func222, Tryz.ntmps222
      go_wp2
      go_ret
      exact ⟨rfl, rfl⟩
    | false =>
      have e : p = (k == 2) := by rw [← hp]; unfold plainB; rw [h0, h1]; rfl
      subst e
      go_enter Tryz.func222, Tryz.ntmps222
      go_wp2
      go_ret
      exact ⟨rfl, rfl⟩
set_option maxHeartbeats 4000000 in
theorem r1valid (k e g : Int) (k0 : 0 ≤ k) (k1 : k < 8) (e0 : 0 ≤ e) (g0 : 0 ≤ g) (v : Bool) (hv : fValid k e g = v) : Calls Tryz.prog 200 #[.int .u8 k, .int .i64 e, .int .u64 g] w fun e' w' => e' = .returned (.bool v) ∧ w = w' := by
  have d1 : decide (e < 0) = false := decide_eq_false (by omega)
  by_cases h5 : 5 < k
  · have d5 : decide (5 < k) = true := decide_eq_true h5
    have hf : v = false := by rw [← hv]; unfold fValid; rw [if_neg (by omega), if_neg (by omega)]
    subst hf
    clear hv h5
    go_enter Tryz.func200, Tryz.ntmps200
    go_wp2
    go_ret
    exact ⟨rfl, rfl⟩
  · have d5 : decide (5 < k) = false := decide_eq_false h5
    by_cases h16 : 16 ≤ e
    · have d16 : decide (16 ≤ e) = true := decide_eq_true h16
      have hf : v = false := by
        rw [← hv]; unfold fValid
        split
        · exact decide_eq_false (by omega)
        · split
          · exact decide_eq_false (by omega)
          · rfl
      subst hf
      clear hv h5 h16
      go_enter Tryz.func200, Tryz.ntmps200
      go_wp2
      go_ret
      exact ⟨rfl, rfl⟩
    · have d16 : decide (16 ≤ e) = false := decide_eq_false h16
      by_cases hg : 1099511627775 < g
      · have dg : decide (1099511627775 < g) = true := decide_eq_true hg
        have hf : v = false := by
          rw [← hv]; unfold fValid
          split
          · exact decide_eq_false (by omega)
          · split
            · exact decide_eq_false (by omega)
            · rfl
        subst hf
        clear hv h5 h16 hg
        go_enter Tryz.func200, Tryz.ntmps200
        go_wp2
        go_ret
        exact ⟨rfl, rfl⟩
      · have dg : decide (1099511627775 < g) = false := decide_eq_false hg
        by_cases hp : k = 0 ∨ k = 1 ∨ k = 2
        · have HP := hid (show plainB k = true by unfold plainB; rcases hp with rfl | rfl | rfl <;> rfl)
          have hf : v = decide (e = 0 ∧ g = 0) := by rw [← hv]; unfold fValid; rw [if_pos hp]
          by_cases he : e = 0
          · have de : (e == 0) = true := beq_iff_eq.2 he
            have hf2 : v = (g == 0) := by rw [hf, he]; simp; rfl
            clear hf hv h5 h16 hg hp he
            subst hf2
            go_enter Tryz.func200, Tryz.ntmps200
            go_wp2_with fail
            refine (r1plain k true HP.out).mono ?_
            rintro e' w' ⟨rfl, rfl⟩
            go_wp2
            go_ret
            exact ⟨rfl, rfl⟩
          · have de : (e == 0) = false := beq_eq_false_iff_ne.2 he
            have hf2 : v = false := by rw [hf]; exact decide_eq_false (fun h => he h.1)
            clear hf hv h5 h16 hg hp he
            subst hf2
            go_enter Tryz.func200, Tryz.ntmps200
            go_wp2_with fail
            refine (r1plain k true HP.out).mono ?_
            rintro e' w' ⟨rfl, rfl⟩
            go_wp2
            go_ret
            exact ⟨rfl, rfl⟩
        · have HP := hid (show plainB k = false by unfold plainB; rw [beq_eq_false_iff_ne.2 (show k ≠ 0 by omega), beq_eq_false_iff_ne.2 (show k ≠ 1 by omega), beq_eq_false_iff_ne.2 (show k ≠ 2 by omega)]; rfl)
          have hf : v = true := by rw [← hv]; unfold fValid; rw [if_neg hp, if_pos (by omega)]; exact decide_eq_true (by omega)
          subst hf
          clear hv h5 h16 hg hp
          go_enter Tryz.func200, Tryz.ntmps200
          go_wp2_with fail
          refine (r1plain k false HP.out).mono ?_
          rintro e' w' ⟨rfl, rfl⟩
          go_wp2
          go_ret
          exact ⟨rfl, rfl⟩
set_option maxHeartbeats 2000000 in
theorem r1check (x : Int) (h0 : 0 ≤ x) (h1 : x < 18446744073709551616) : Calls Tryz.prog 171 #[.int .u64 x] w fun e w' => e = .returned (.int .i64 (if fOk x = true then 0 else 4)) ∧ w = w' := by
  have hk := fKind_rng (w := x)
  have he := fEntry_rng (w := x)
  have hg := fGen_rng h0 h1
  have HK := fun w => hid (@r1kind w x h0 h1)
  have HE := fun w => hid (@r1entry w x h0 h1)
  have HG := fun w => hid (@r1gen w x h0 h1)
  cases hv : fOk x with
  | true =>
    have HV := fun w => hid (@r1valid w (fKind x) (fEntry x) (fGen x) hk.1 hk.2 he.1 hg.1 true hv)
    rw [if_pos rfl]
    clear hv hk he hg h0 h1
    go_enter Tryz.func171, Tryz.ntmps171
    go_wp2_with fail
    refine (HK _).out.mono ?_
    rintro e w' ⟨rfl, rfl⟩
    go_wp2_with fail
    refine (HE _).out.mono ?_
    rintro e w' ⟨rfl, rfl⟩
    go_wp2_with fail
    refine (HG _).out.mono ?_
    rintro e w' ⟨rfl, rfl⟩
    go_wp2_with fail
    refine (HV _).out.mono ?_
    rintro e w' ⟨rfl, rfl⟩
    go_wp2
    go_ret
    exact ⟨rfl, rfl⟩
  | false =>
    have HV := fun w => hid (@r1valid w (fKind x) (fEntry x) (fGen x) hk.1 hk.2 he.1 hg.1 false hv)
    rw [if_neg (by decide)]
    clear hv hk he hg h0 h1
    go_enter Tryz.func171, Tryz.ntmps171
    go_wp2_with fail
    refine (HK _).out.mono ?_
    rintro e w' ⟨rfl, rfl⟩
    go_wp2_with fail
    refine (HE _).out.mono ?_
    rintro e w' ⟨rfl, rfl⟩
    go_wp2_with fail
    refine (HG _).out.mono ?_
    rintro e w' ⟨rfl, rfl⟩
    go_wp2_with fail
    refine (HV _).out.mono ?_
    rintro e w' ⟨rfl, rfl⟩
    go_wp2
    go_ret
    exact ⟨rfl, rfl⟩
set_option maxHeartbeats 2000000 in
theorem r1decided (s d : Int) (s0 : 0 ≤ s) (s1 : s < 18446744073709551616) (d0 : 0 ≤ d) (d1 : d < 18446744073709551616) (v : Bool) (hv : fDec s d = v) : Calls Tryz.prog 174 #[.int .u64 s, .int .u64 d] w fun e w' => e = .returned (.bool v) ∧ w = w' := by
  have HD := fun w => hid (@r1dgen w d d0 d1)
  have HG := fun w => hid (@r1gen w s s0 s1)
  have HC := fun w => hid (@r1comm w d d0 d1)
  by_cases hne : d / 2 = fGen s
  · have dn : (d / 2 != fGen s) = false := by rw [hne]; simp
    have e : v = (d % 2 == 1) := by rw [← hv]; unfold fDec; rw [decide_eq_true hne]; simp; rfl
    clear hv hne s0 s1 d0 d1
    subst e
    go_enter Tryz.func174, Tryz.ntmps174
    go_wp2_with fail
    refine (HD _).out.mono ?_
    rintro e w' ⟨rfl, rfl⟩
    go_wp2_with fail
    refine (HG _).out.mono ?_
    rintro e w' ⟨rfl, rfl⟩
    go_wp2_with fail
    refine (HC _).out.mono ?_
    rintro e w' ⟨rfl, rfl⟩
    go_wp2
    go_ret
    exact ⟨rfl, rfl⟩
  · have dn : (d / 2 != fGen s) = true := bne_iff_ne.2 hne
    have e : v = true := by rw [← hv]; unfold fDec; rw [decide_eq_false hne]; rfl
    clear hv hne s0 s1 d0 d1
    subst e
    go_enter Tryz.func174, Tryz.ntmps174
    go_wp2_with fail
    refine (HD _).out.mono ?_
    rintro e w' ⟨rfl, rfl⟩
    go_wp2_with fail
    refine (HG _).out.mono ?_
    rintro e w' ⟨rfl, rfl⟩
    go_wp2
    go_ret
    exact ⟨rfl, rfl⟩
set_option maxHeartbeats 8000000 in
theorem r1decide (s d : Int) (s0 : 0 ≤ s) (s1 : s < 18446744073709551616) (d0 : 0 ≤ d) (d1 : d < 18446744073709551616) : Calls Tryz.prog 123 #[.int .u64 s, .int .u64 d] w fun e w' => e = .returned (.tuple #[.bool (fDecide s d).1, .bool (fDecide s d).2.1, .int .i64 (fDecide s d).2.2]) ∧ w = w' := by
  have HCK := fun w => hid (@r1check w s s0 s1)
  have HD := fun w => hid (@r1dgen w d d0 d1)
  cases hok : fOk s with
  | false =>
    have hf : fDecide s d = (false, false, 4) := by unfold fDecide; rw [if_pos (.inl hok)]
    rw [hok, if_neg (by decide)] at HCK
    rw [hf]
    clear hok hf s0 s1 d0 d1
    go_enter Tryz.func123, Tryz.ntmps123
    go_wp2_with fail
    refine (HCK _).out.mono ?_
    rintro e w' ⟨rfl, rfl⟩
    go_wp2
    exact bodyPost_ret (results_tmp3 rfl _ _ _) rfl ⟨rfl, rfl⟩
  | true =>
    rw [hok, if_pos rfl] at HCK
    by_cases hd : 1099511627775 < d / 2
    · have dd : decide (1099511627775 < d / 2) = true := decide_eq_true hd
      have hf : fDecide s d = (false, false, 4) := by unfold fDecide; rw [if_pos (.inr hd)]
      rw [hf]
      clear hok hf s0 s1 d0 d1 hd
      go_enter Tryz.func123, Tryz.ntmps123
      go_wp2_with fail
      refine (HCK _).out.mono ?_
      rintro e w' ⟨rfl, rfl⟩
      go_wp2_with fail
      refine (HD _).out.mono ?_
      rintro e w' ⟨rfl, rfl⟩
      go_wp2
      exact bodyPost_ret (results_tmp3 rfl _ _ _) rfl ⟨rfl, rfl⟩
    · have dd : decide (1099511627775 < d / 2) = false := decide_eq_false hd
      have HK := fun w => hid (@r1kind w s s0 s1)
      obtain ⟨v, hv⟩ : ∃ v, fDec s d = v := ⟨_, rfl⟩
      have HDC := fun w => hid (@r1decided w s d s0 s1 d0 d1 v hv)
      have hkr := fOk_kind hok
      have hf : fDecide s d = if fKind s = 1 then (true, false, 0) else if fKind s = 3 then (v, false, 0) else if fKind s = 4 then (!v, false, 0) else if fKind s = 5 then (true, v, 0) else (false, false, 0) := by
        unfold fDecide
        rw [if_neg (fun h => h.elim (fun h => by rw [hok] at h; cases h) hd), hv]
      rw [hf]
      clear hok hf s0 s1 d0 d1 hd hv
      generalize fKind s = k at *
      rcases hkr with rfl | rfl | rfl | rfl | rfl | rfl <;> cases v
      all_goals
        go_enter Tryz.func123, Tryz.ntmps123
        go_wp2_with fail
        refine (HCK _).out.mono ?_
        rintro e w' ⟨rfl, rfl⟩
        go_wp2_with fail
        refine (HD _).out.mono ?_
        rintro e w' ⟨rfl, rfl⟩
        go_wp2_with fail
        refine (HDC _).out.mono ?_
        rintro e w' ⟨rfl, rfl⟩
        go_wp2_with fail
        refine (HK _).out.mono ?_
        rintro e w' ⟨rfl, rfl⟩
        go_wp2
        exact bodyPost_ret (results_tmp3 rfl _ _ _) rfl ⟨rfl, rfl⟩
end
end Go.Proofs.YtmafdjhjmnghcaaGreat

/-! leapfrogref25: a read: contracts. -/
set_option linter.unusedVariables false
set_option linter.unusedSimpArgs false
namespace Go.Lf
/-- The next step behind a state. -/
def byPc (lk x : Int) : Int := if byKind lk x = 0 ∨ byKind lk x = 2 then 0 else if byKind lk x = 1 then 25 else 24
end Go.Lf
namespace Go.Proofs.YtmafdjhjmnghcaaGreat
open Go.RowKit Go.Lf
def rrC (rb : Nat) (th tw tr pc st alt vv : Int) (pp : Bool) (fl er : Int) : Array Value := #[.pointer (some ⟨rb, 0, none⟩), .int .i64 th, .int .i64 tw, .int .i64 tr, .int .u8 pc, .int .u64 st, .int .u64 alt, .int .u64 vv, .bool pp, .int .i64 fl, .int .i64 er]
def RRaw (w : World) (q rb : Nat) (th tw tr pc st alt vv : Int) (pp : Bool) (fl er : Int) : Prop := w.heap[q]? = some (.cells (rrC rb th tw tr pc st alt vv pp fl er) 210 (0, 0))
/-- The reference's read. -/
def RReadAt (w : World) (q rb : Nat) (s : RS) : Prop := ∃ (alt vv : Int) (pp : Bool), RRaw w q rb s.th s.tower s.tries s.next s.state alt vv pp s.fails s.err ∧ (s.next = 27 → alt = s.value) ∧ (s.ended = false → vv = 0 ∧ pp = false) ∧ (s.ended = true → vv = s.value ∧ pp = s.present ∧ s.next = 0)
theorem RReadAt.keep {w w' : World} {q rb : Nat} {s : RS} {S : Nat → Prop} (h : RReadAt w q rb s) (hk : Keep S w w') (hn : ¬ S q) : RReadAt w' q rb s := by
  obtain ⟨alt, vv, pp, h1, h2⟩ := h
  exact ⟨alt, vv, pp, hk.at h1 hn, h2⟩
theorem RReadAt.lt {w : World} {q rb : Nat} {s : RS} (h : RReadAt w q rb s) : q < w.heap.size := by
  obtain ⟨alt, vv, pp, h1, h2⟩ := h
  exact lt_of_block h1
def RReadO (rb : Nat) : OpLies RS where
  at_ w q s := RReadAt w q rb s
  keep := fun h hk hn => h.keep hk hn
  lt := fun h => h.lt
section
variable {w : World} {c : Cfg} {q rb l : Nat} {th tw tr pc st alt vv : Int} {pp : Bool} {fl er : Int}
set_option maxRecDepth 100000 in
set_option maxHeartbeats 2000000 in
theorem r25ends (h : RRaw w q rb th tw tr pc st alt vv pp fl er) (x : Int) : Calls Tryz.prog 124 #[.pointer (some ⟨q, 0, none⟩), .int .u64 x] w fun e w' => e = .returned (.tuple #[]) ∧ RRaw w' q rb th tw tr 0 st alt x true fl er ∧ Keep (fun k => k = q) w w' := by
  have z := lt_of_block h
  have c7 : w.cell? ⟨q, 7, none⟩ = some (.int .u64 vv) := by rw [cell_of h]; rfl
  have c8 : w.cell? ⟨q, 8, none⟩ = some (.bool pp) := by rw [cell_of h]; rfl
  have c4 : w.cell? ⟨q, 4, none⟩ = some (.int .u8 pc) := by rw [cell_of h]; rfl
  have f : ∀ i, w.frozen? ⟨q, i, none⟩ = false := fun i => free_of h i
  have H := hid h
  clear h
  go_enter Tryz.func124, Tryz.ntmps124
  go_wp2
  go_end0
  exact ⟨rfl, set_same (set_same (set_same H.out _) _) _, (((Keep.refl (fun k => k = q) w).setCell (p := ⟨q, 7, none⟩) (.inl rfl) _).setCell (p := ⟨q, 8, none⟩) (.inl rfl) _).setCell (p := ⟨q, 4, none⟩) (.inl rfl) _⟩
set_option maxRecDepth 100000 in
set_option maxHeartbeats 4000000 in
theorem r25by (h : RRaw w q rb th tw tr pc st alt vv pp fl er) (hrb : w.cell? ⟨rb, 0, none⟩ = some (.pointer (some ⟨l, 0, none⟩))) (hl : RLC w l c) (hok : c.ok) (hne : rb ≠ q ∧ l ≠ q) (hz : rb < w.heap.size) (x : Int) (x0 : 0 ≤ x) (x1 : x < 18446744073709551616) : Calls Tryz.prog 121 #[.pointer (some ⟨q, 0, none⟩), .int .u64 x] w fun e w' => e = .returned (.tuple #[]) ∧ RRaw w' q rb th tw tr (byPc c.lk x) x alt vv pp fl er ∧ Keep (fun k => k = q) w w' := by
  have z := lt_of_block h
  have c0 : w.cell? ⟨q, 0, none⟩ = some (.pointer (some ⟨rb, 0, none⟩)) := by rw [cell_of h]; rfl
  have c5 : w.cell? ⟨q, 5, none⟩ = some (.int .u64 st) := by rw [cell_of h]; rfl
  have c4 : w.cell? ⟨q, 4, none⟩ = some (.int .u8 pc) := by rw [cell_of h]; rfl
  have f : ∀ i, w.frozen? ⟨q, i, none⟩ = false := fun i => free_of h i
  have c13 := hl.c13
  have lz := hl.lt
  have H := hid h
  have n1 := hne.1
  have n2 := hne.2
  have n3 : q ≠ rb := fun e => n1 e.symm
  have n4 : q ≠ l := fun e => n2 e.symm
  have HCK := fun w => hid (@r1check w x x0 x1)
  have HK := fun w => hid (@r1kind w x x0 x1)
  have HE := fun w => hid (@r1entry w x x0 x1)
  have K2 : ∀ v, RRaw ((w.setCell ⟨q, 5, none⟩ (.int .u64 x)).setCell ⟨q, 4, none⟩ (.int .u8 v)) q rb th tw tr v x alt vv pp fl er := fun v => set_same (set_same H.out _) _
  have KK : ∀ v, Keep (fun k => k = q) w ((w.setCell ⟨q, 5, none⟩ (.int .u64 x)).setCell ⟨q, 4, none⟩ (.int .u8 v)) := fun v => ((Keep.refl (fun k => k = q) w).setCell (p := ⟨q, 5, none⟩) (.inl rfl) _).setCell (p := ⟨q, 4, none⟩) (.inl rfl) _
  have HK2 := hid K2
  have HKK := hid KK
  clear h hl hne K2 KK
  cases hv : fOk x with
  | false =>
    have hb : byPc c.lk x = 0 := by unfold byPc byKind; rw [if_neg (show ¬ (fOk x = true ∧ fEntry x < (c.lk : Int)) from fun h => by rw [hv] at h; cases h.1)]; rfl
    rw [hb]
    rw [hv, if_neg (by decide)] at HCK
    clear hv hb
    go_enter Tryz.func121, Tryz.ntmps121
    go_wp2_with fail
    refine (HCK _).out.mono ?_
    rintro e w' ⟨rfl, rfl⟩
    go_wp2
    exact bodyPost_ret (results_none rfl _ _ _) rfl ⟨rfl, HK2.out 0, HKK.out 0⟩
  | true =>
    rw [hv, if_pos rfl] at HCK
    have hkr := fOk_kind hv
    have hen := fEntry_rng (w := x)
    have hlive : fKind x = 0 ∨ fKind x = 1 ∨ fKind x = 2 → fEntry x = 0 := fun h => by
      unfold fOk fValid at hv
      rw [if_pos h] at hv
      exact (of_decide_eq_true hv).1
    have hlk := hok.lk1
    by_cases hp : fKind x = 0 ∨ fKind x = 2
    · have hb : byPc c.lk x = 0 := by
        unfold byPc byKind
        rw [if_pos (show fOk x = true ∧ fEntry x < (c.lk : Int) from ⟨hv, by have := hlive (by omega); omega⟩), if_pos hp]
      rw [hb]
      have k1 : (fKind x == 1) = false := beq_eq_false_iff_ne.2 (by omega)
      have k3 : (fKind x == 3) = false := beq_eq_false_iff_ne.2 (by omega)
      have k4 : (fKind x == 4) = false := beq_eq_false_iff_ne.2 (by omega)
      have k5 : (fKind x == 5) = false := beq_eq_false_iff_ne.2 (by omega)
      clear hv hb hkr hen hlive hlk hp
      go_enter Tryz.func121, Tryz.ntmps121
      go_wp2_with fail
      refine (HCK _).out.mono ?_
      rintro e w' ⟨rfl, rfl⟩
      go_wp2_with fail
      refine (HK _).out.mono ?_
      rintro e w' ⟨rfl, rfl⟩
      go_wp2
      go_end0
      exact ⟨rfl, HK2.out 0, HKK.out 0⟩
    · by_cases h1 : fKind x = 1
      · have hb : byPc c.lk x = 25 := by
          unfold byPc byKind
          rw [if_pos (show fOk x = true ∧ fEntry x < (c.lk : Int) from ⟨hv, by have := hlive (by omega); omega⟩), if_neg hp, if_pos h1]
        rw [hb]
        have k1 : (fKind x == 1) = true := beq_iff_eq.2 h1
        clear hv hb hkr hen hlive hlk hp h1
        go_enter Tryz.func121, Tryz.ntmps121
        go_wp2_with fail
        refine (HCK _).out.mono ?_
        rintro e w' ⟨rfl, rfl⟩
        go_wp2_with fail
        refine (HK _).out.mono ?_
        rintro e w' ⟨rfl, rfl⟩
        go_wp2
        go_end0
        exact ⟨rfl, set_same (HK2.out 0) _, (HKK.out 0).setCell (p := ⟨q, 4, none⟩) (.inl rfl) _⟩
      · have k1 : (fKind x == 1) = false := beq_eq_false_iff_ne.2 h1
        have h345 : fKind x = 3 ∨ fKind x = 4 ∨ fKind x = 5 := by omega
        by_cases he : fEntry x < (c.lk : Int)
        · have hb : byPc c.lk x = 24 := by
            unfold byPc byKind
            rw [if_pos (show fOk x = true ∧ fEntry x < (c.lk : Int) from ⟨hv, he⟩), if_neg hp, if_neg h1]
          rw [hb]
          have de : decide (fEntry x < (c.lk : Int)) = true := decide_eq_true he
          clear hv hb hkr hen hlive hlk hp h1 he
          generalize fKind x = k at *
          rcases h345 with rfl | rfl | rfl
          all_goals
            go_enter Tryz.func121, Tryz.ntmps121
            go_wp2_with fail
            refine (HCK _).out.mono ?_
            rintro e w' ⟨rfl, rfl⟩
            go_wp2_with fail
            refine (HK _).out.mono ?_
            rintro e w' ⟨rfl, rfl⟩
            go_upto_region 8 with fail
            go_quiet ((go_at_call 122; exact quiet_eq (HE _).out))
            go_wp2
            go_end0
            exact ⟨rfl, set_same (HK2.out 0) _, ((HKK.out 0).drewN _).setCell (p := ⟨q, 4, none⟩) (.inl rfl) _⟩
        · have hb : byPc c.lk x = 0 := by
            unfold byPc byKind
            rw [if_neg (show ¬ (fOk x = true ∧ fEntry x < (c.lk : Int)) from fun h => he h.2)]; rfl
          rw [hb]
          have de : decide (fEntry x < (c.lk : Int)) = false := decide_eq_false he
          clear hv hb hkr hen hlive hlk hp h1 he
          generalize fKind x = k at *
          rcases h345 with rfl | rfl | rfl
          all_goals
            go_enter Tryz.func121, Tryz.ntmps121
            go_wp2_with fail
            refine (HCK _).out.mono ?_
            rintro e w' ⟨rfl, rfl⟩
            go_wp2_with fail
            refine (HK _).out.mono ?_
            rintro e w' ⟨rfl, rfl⟩
            go_upto_region 8 with fail
            go_quiet ((go_at_call 122; exact quiet_eq (HE _).out))
            go_wp2
            go_end0
            exact ⟨rfl, HK2.out 0, (HKK.out 0).drewN _⟩
set_option maxHeartbeats 1000000 in
theorem r25next {s : RS} (h : RReadAt w q rb s) : Calls Tryz.prog 119 #[.pointer (some ⟨q, 0, none⟩)] w fun e w' => e = .returned (.int .u8 s.next) ∧ w = w' := by
  obtain ⟨alt, vv, pp, h1, -⟩ := h
  have c4 : w.cell? ⟨q, 4, none⟩ = some (.int .u8 s.next) := by rw [cell_of h1]; rfl
  have z := lt_of_block h1
  clear h1
  go_enter Tryz.func119, Tryz.ntmps119
  go_wp2
  go_ret
  exact ⟨rfl, rfl⟩
set_option maxHeartbeats 2000000 in
theorem r25res0 {s : RS} (h : RReadAt w q rb s) (hn : s.next ≠ 0) : Calls Tryz.prog 118 #[.pointer (some ⟨q, 0, none⟩)] w fun e w' => e = .returned (.tuple #[.int .u64 0, .bool false, .int .i64 0, .int .i64 8]) ∧ w = w' := by
  obtain ⟨alt, vv, pp, h1, -⟩ := h
  have c4 : w.cell? ⟨q, 4, none⟩ = some (.int .u8 s.next) := by rw [cell_of h1]; rfl
  have z := lt_of_block h1
  have dn : (s.next != 0) = true := bne_iff_ne.2 hn
  clear h1 hn
  go_enter Tryz.func118, Tryz.ntmps118
  go_wp2
  exact bodyPost_ret (results_tmp4 rfl _ _ _) rfl ⟨rfl, rfl⟩
set_option maxHeartbeats 2000000 in
theorem r25res1 {s : RS} (h : RReadAt w q rb s) (he : s.ended = true) : Calls Tryz.prog 118 #[.pointer (some ⟨q, 0, none⟩)] w fun e w' => e = .returned (.tuple #[.int .u64 s.value, .bool s.present, .int .i64 s.fails, .int .i64 s.err]) ∧ Keep Nil w w' := by
  obtain ⟨alt, vv, pp, h1, -, -, h4⟩ := h
  obtain ⟨rfl, rfl, hn⟩ := h4 he
  have c4 : w.cell? ⟨q, 4, none⟩ = some (.int .u8 s.next) := by rw [cell_of h1]; rfl
  have c7 : w.cell? ⟨q, 7, none⟩ = some (.int .u64 s.value) := by rw [cell_of h1]; rfl
  have c8 : w.cell? ⟨q, 8, none⟩ = some (.bool s.present) := by rw [cell_of h1]; rfl
  have c9 : w.cell? ⟨q, 9, none⟩ = some (.int .i64 s.fails) := by rw [cell_of h1]; rfl
  have c10 : w.cell? ⟨q, 10, none⟩ = some (.int .i64 s.err) := by rw [cell_of h1]; rfl
  have z := lt_of_block h1
  have dn : (s.next != 0) = false := by rw [hn]; rfl
  clear h1 h4 hn
  go_enter Tryz.func118, Tryz.ntmps118
  go_wp2
  go_quiet (fail)
  go_wp2
  exact bodyPost_ret (results_tmp4 rfl _ _ _) rfl ⟨rfl, (Keep.refl Nil w).drewN _⟩
end
end Go.Proofs.YtmafdjhjmnghcaaGreat

/-! leapfrogref25: New and Step. -/
set_option linter.unusedVariables false
set_option linter.unusedSimpArgs false
namespace Go.Lf
/-- What going on by a state leaves. -/
structure ByF (lk x : Int) (s t : RS) : Prop where
  th : t.th = s.th
  tw : t.tower = s.tower
  tr : t.tries = s.tries
  nx : t.next = byPc lk x
  st : t.state = x
  fl : t.fails = s.fails
  er : t.err = s.err
  en : t.ended = (byPc lk x == 0)
  vl : t.ended = true → t.value = 0 ∧ t.present = false
theorem RS.by_f {lk x : Int} {s : RS} (h : s.ended = false) : ByF lk x s (s.by lk x) := by
  unfold RS.by
  split
  · rename_i h1
    have hb : byPc lk x = 0 := by unfold byPc; rw [if_pos h1]
    exact ⟨rfl, rfl, rfl, hb.symm, rfl, rfl, rfl, by rw [hb]; rfl, fun _ => ⟨rfl, rfl⟩⟩
  · rename_i h1
    split
    · rename_i h2
      have hb : byPc lk x = 25 := by unfold byPc; rw [if_neg h1, if_pos h2]
      exact ⟨rfl, rfl, rfl, hb.symm, rfl, rfl, rfl, by rw [hb]; exact h, fun e => by rw [show ({ s with state := x, next := 25 } : RS).ended = s.ended from rfl, h] at e; cases e⟩
    · rename_i h2
      have hb : byPc lk x = 24 := by unfold byPc; rw [if_neg h1, if_neg h2]
      exact ⟨rfl, rfl, rfl, hb.symm, rfl, rfl, rfl, by rw [hb]; exact h, fun e => by rw [show ({ s with state := x, next := 24 } : RS).ended = s.ended from rfl, h] at e; cases e⟩
theorem byPc_27 (lk x : Int) : byPc lk x ≠ 27 := by
  unfold byPc
  split
  · decide
  · split <;> decide
theorem fDecide_err {s d : Int} (h : (fDecide s d).2.2 ≠ 0) : (fDecide s d).1 = false := by
  unfold fDecide at h ⊢
  split
  · rfl
  · rename_i h1
    rw [if_neg h1] at h
    split
    · rename_i h2; rw [if_pos h2] at h; exact absurd rfl h
    · rename_i h2; rw [if_neg h2] at h
      split
      · rename_i h3; rw [if_pos h3] at h; exact absurd rfl h
      · rename_i h3; rw [if_neg h3] at h
        split
        · rename_i h4; rw [if_pos h4] at h; exact absurd rfl h
        · rename_i h4; rw [if_neg h4] at h
          split
          · rename_i h5; rw [if_pos h5] at h; exact absurd rfl h
          · rfl
end Go.Lf
namespace Go.Proofs.YtmafdjhjmnghcaaGreat
open Go.RowKit Go.Lf
/-- A read of the reference under way. -/
structure RR (w : World) (B : Nat → Prop) (c : Cfg) (rb rm l q : Nat) (F G : Nat → Prop) (ws : List Int) (log : List Acc) (s : RS) (i hh : Nat) : Prop where
  rp : RP w B c rb rm l F G ws log
  at_ : RReadAt w q rb s
  nB : ¬ B q
  ok : c.ok
  hx : c.hs[i]? = some hh
  tw : s.tower = i + 1
  t0 : 0 ≤ s.th
  t1 : s.th < 64
  wd : WdOk c ws
  lg : log.length < 1000000000000
  gd : s.good c.lk
def RRTo (w : World) (B : Nat → Prop) (c : Cfg) (rb rm q : Nat) (ws : List Int) (lo : List Acc) (ac : Acc) (pc : Int) (s' : RS) (e : Ending) (w' : World) : Prop :=
  e = .returned (.tuple #[.int .u8 pc, .bool s'.ended]) ∧ ∃ B', (RStoreL c rb rm).lie w' B' (ws, lo ++ [ac]) ∧ RReadAt w' q rb s' ∧ Keep (fun k => B k ∨ k = q) w w' ∧ Foot w B B'
section
variable {w : World} {B : Nat → Prop} {c : Cfg} {rb rm l q : Nat} {F G : Nat → Prop} {ws : List Int} {log : List Acc} {s : RS} {i hh : Nat}
theorem RR.quiet {w' : World} (h : RR w B c rb rm l q F G ws log s i hh) (hk : Keep Nil w w') : RR w' B c rb rm l q F G ws log s i hh :=
  { h with rp := h.rp.quiet hk, at_ := h.at_.keep hk (fun h => h) }
theorem RR.ne (h : RR w B c rb rm l q F G ws log s i hh) : rb ≠ q ∧ q ≠ rb := by
  have h1 : rb ≠ q := fun e => h.nB (by rw [← e]; exact (h.rp.foot rb).2 (.inl rfl))
  exact ⟨h1, fun e => h1 e.symm⟩
/-- A call of the memory, seen closer. -/
theorem RP.turn2 {w' : World} {ws' : List Int} {log' : List Acc} {mb : Nat} (h : RP w B c rb mb l F G ws log) (hm : RefTo w mb F ws' log' w') : ∃ F' B', RP w' B' c rb mb l F' G ws' log' ∧ Keep B w w' ∧ Foot w B B' := by
  obtain ⟨F', hm', hk, hf⟩ := hm
  obtain ⟨x2, x3, x4, x5, x6, x7, x8, x9, x10, x11, hb⟩ := h.head
  refine ⟨F', fun k => k = rb ∨ F' k ∨ G k, ⟨⟨x2, x3, x4, x5, x6, x7, x8, x9, x10, x11, hk.at hb h.nF⟩, hm', h.lay.keep hk (fun k hG => (h.gf k hG).1), fun _ => Iff.rfl, fun e => ?_, h.nG, fun k hG => ⟨fun e => ?_, by have := (h.gf k hG).2; have := hk.size; omega⟩, h.more.keep hk (fun k e => e.elim (fun e => e ▸ h.nF) (fun hG => (h.gf k hG).1))⟩, hk.mono (T := B) (fun k _ e => (h.foot k).2 (.inr (.inl e))), fun k hk' => ?_⟩
  · rcases hf rb e with e | e
    · exact h.nF e
    · have := lt_of_block hb; omega
  · rcases hf k e with e | e
    · exact (h.gf k hG).1 e
    · have := (h.gf k hG).2; omega
  · rcases hk' with e | e | e
    · exact .inl ((h.foot k).2 (.inl e))
    · rcases hf k e with e | e
      · exact .inl ((h.foot k).2 (.inr (.inl e)))
      · exact .inr (by omega)
    · exact .inl ((h.foot k).2 (.inr (.inr e)))
/-- A load of the reference's memory. -/
structure RL (w : World) (B : Nat → Prop) (c : Cfg) (rb rm q : Nat) (ws : List Int) (log' : List Acc) (w1 : World) (B1 : Nat → Prop) (l1 : Nat) (F1 G1 : Nat → Prop) : Prop where
  rp : RP w1 B1 c rb rm l1 F1 G1 ws log'
  nB : ¬ B1 q
  keep : Keep B w w1
  foot : Foot w B B1
theorem RR.load (h : RR w B c rb rm l q F G ws log s i hh) (a x : Int) (a0 : 0 ≤ a) (hxx : ws[a.toNat]? = some x) :
    Calls Tryz.prog 101 #[.pointer (some ⟨rm, 0, none⟩), .int .i64 s.th, .int .i64 a] w fun e w' => e = .returned (.tuple #[.int .u64 x, .int .i64 0]) ∧ ∃ B1 F1, RL w B c rb rm q ws (log ++ [⟨s.th, a, 1, x, x, false⟩]) w' B1 l F1 G := by
  refine (rload_ok h.rp.mem s.th a x h.t0 h.t1 a0 hxx h.lg).mono ?_
  rintro e w' ⟨rfl, hto⟩
  obtain ⟨F1, B1, h1, h2, h3⟩ := h.rp.turn2 hto
  exact ⟨rfl, B1, F1, h1, fun e => (h3 q e).elim h.nB (fun e => by have := h.at_.lt; omega), h2, h3⟩
/-- What a step makes of it. -/
theorem RL.done {log' : List Acc} {w1 w2 : World} {B1 F1 G1 : Nat → Prop} {l1 : Nat} {pc : Int} {s' : RS} {lo : List Acc} {ac : Acc} (h : RL w B c rb rm q ws log' w1 B1 l1 F1 G1) (hl : log' = lo ++ [ac]) (hr : RReadAt w2 q rb s') (hk : Keep (fun k => k = q) w1 w2) (e : Ending) (he : e = .returned (.tuple #[.int .u8 pc, .bool s'.ended])) :
    RRTo w B c rb rm q ws lo ac pc s' e w2 :=
  ⟨he, B1, by rw [← hl]; exact ⟨l1, F1, G1, h.rp.keep hk (fun k hk1 e => h.nB (by have e2 : k = q := e; rw [← e2]; exact hk1))⟩, hr, (h.keep.mono (T := fun k => B k ∨ k = q) (fun _ _ h => .inl h)).trans (hk.mono (T := fun k => B k ∨ k = q) (fun _ _ h => .inr h)) (fun _ _ h => h), h.foot⟩
theorem RRTo.pre {w9 w2 : World} {lo : List Acc} {ac : Acc} {pc : Int} {s' : RS} {e : Ending} (hk : Keep Nil w w9) (h : RRTo w9 B c rb rm q ws lo ac pc s' e w2) : RRTo w B c rb rm q ws lo ac pc s' e w2 := by
  obtain ⟨h1, B', h2, h3, h4, h5⟩ := h
  exact ⟨h1, B', h2, h3, (hk.mono (T := fun k => B k ∨ k = q) (fun _ _ h => h.elim)).trans h4 (fun _ _ h => h), fun k e => (h5 k e).imp id (fun e => by have := hk.size; omega)⟩
theorem RR.word (h : RR w B c rb rm l q F G ws log s i hh) (n : Nat) (hn : n ≤ 4) : ∃ x, ws[c.tow i + n]? = some x ∧ 0 ≤ x ∧ x < 18446744073709551616 := by
  have := (c.tow_rng (List.getElem?_eq_some_iff.1 h.hx).1).2
  exact h.wd.at (by omega)
theorem RP.rlc {l : Nat} (h : RP w B c rb rm l F G ws log) : RLC w l c := h.lay.1
theorem RP.ne0 {A : Nat → Prop} (h : RP w A c rb rm l F G ws log) (hn : ¬ A q) : rb ≠ q ∧ q ≠ rb :=
  have h1 : rb ≠ q := fun e => hn (by rw [← e]; exact (h.foot rb).2 (.inl rfl))
  ⟨h1, fun e => h1 e.symm⟩
set_option maxRecDepth 100000 in
set_option maxHeartbeats 16000000 in
theorem r25step (h : RR w B c rb rm l q F G ws log s i hh) : Calls Tryz.prog 61 #[.pointer (some ⟨q, 0, none⟩)] w (RRTo w B c rb rm q ws log (s.acc (c.tow i) c.descs ws) s.next (s.step c.lk (s.word (c.tow i) c.descs ws))) := by
  obtain ⟨s', hs'⟩ : ∃ s', s' = s.step c.lk (s.word (c.tow i) c.descs ws) := ⟨_, rfl⟩
  obtain ⟨ac, hac⟩ : ∃ ac, ac = s.acc (c.tow i) c.descs ws := ⟨_, rfl⟩
  rw [← hs', ← hac]
  have HS' := hid hs'
  have HAC := hid hac
  clear hs' hac
  obtain ⟨alt, vv, pp, hraw, hr27, hr0, hr1⟩ := id h.at_
  obtain ⟨rfl, rfl⟩ := hr0 h.gd.ended
  have HR27 := hid hr27
  have HRAW := hid hraw
  have H := hid h
  have q0 : w.cell? ⟨q, 0, none⟩ = some (.pointer (some ⟨rb, 0, none⟩)) := by rw [cell_of hraw]; rfl
  have q2 : w.cell? ⟨q, 2, none⟩ = some (.int .i64 s.tower) := by rw [cell_of hraw]; rfl
  have b0 := h.rp.c0
  have bz := h.rp.bl
  have qz := h.at_.lt
  have dn0 : (s.next == 0) = false := beq_eq_false_iff_ne.2 (by rcases h.gd.nx with e | e | e | e | e <;> omega)
  have HWD := hid (rl_words h.ok)
  clear h hraw hr27 hr0 hr1
  go_enter Tryz.func61, Tryz.ntmps61
  go_wp2_with fail
  refine (r25next H.out.at_).mono ?_
  rintro e w1 ⟨rfl, rfl⟩
  have KD := hid ((Keep.refl Nil w).drew)
  go_upto_region 4 with fail
  go_region_held3 (fun w' => w'.cell? ⟨q, 0, none⟩ = some (.pointer (some ⟨rb, 0, none⟩)) ∧ w'.cell? ⟨q, 2, none⟩ = some (.int .i64 s.tower) ∧ w'.cell? ⟨rb, 0, none⟩ = some (.pointer (some ⟨l, 0, none⟩))) (first | (exact s9; done) | go_keep)
    (first
      | (go_at_call 120; (with_reducible refine (rfword_ok (H.out.rp.quiet KD.out).rlc HWD.out H.out.hx _ 0 _ H.out.tw (by omega) (by omega) rfl).mono ?_); rintro e w9 ⟨rfl, hk9⟩; have K9 := hid (KD.out.trans hk9 (fun _ _ h => h)); clear hk9; have s9 := And.intro (K9.out.cell q0 (fun h => h)) (And.intro (K9.out.cell q2 (fun h => h)) (K9.out.cell b0 (fun h => h)))))
  have H9 := hid (H.out.quiet K9.out)
  have R9 := hid (K9.out.at HRAW.out (fun h => h))
  have p0 := K9.out.cell q0 (fun h => h)
  have p1 : w9.cell? ⟨q, 1, none⟩ = some (.int .i64 s.th) := by rw [cell_of R9.out]; rfl
  have pb1 := H9.out.rp.c1
  have pz := H9.out.at_.lt
  have pbz := H9.out.rp.bl
  clear q0 q2 b0 bz qz dn0
  have HQ1 := hid (show ∀ (w : World) (l1 : Nat) (st0 : Int), RLC w l1 c → RRaw w q rb s.th s.tower s.tries s.next st0 alt 0 false s.fails s.err → l1 ≠ q from fun w l1 st0 hr hq e => by
    have h1 := hr.c16
    rw [e, cell_of hq] at h1
    cases h1)
  go_upto_region 6 with fail
  rcases H.out.gd.nx with hn | hn | hn | hn | hn
  · have hn0 : True := trivial
    have dn23 : (s.next == 23) = true := beq_iff_eq.2 hn
    obtain ⟨x, hx, x0, x1⟩ := H.out.word 4 (by omega)
    have hw : s.word (c.tow i) c.descs ws = x := by unfold RS.word RS.at; rw [if_pos hn, hx]; rfl
    have HACC := hid (show (log ++ [⟨s.th, (c.tow i : Int) + 4, 1, x, x, false⟩] : List Acc) = log ++ [ac] from by
      have ha : ((s.at (c.tow i) c.descs : Nat) : Int) = (c.tow i : Int) + 4 := by unfold RS.at; rw [if_pos hn]; rfl
      rw [HAC.out]; unfold RS.acc; rw [hw, ha])
    have HX := hid (show ws[((c.tow i : Int) + 4).toNat]? = some x from by rw [show ((c.tow i : Int) + 4).toNat = c.tow i + 4 by omega]; exact hx)
    have hbd := (c.tow_rng (List.getElem?_eq_some_iff.1 H.out.hx).1).2
    have wa : IntKind.i64.wrap ((c.tow i : Int) + 4) = (c.tow i : Int) + 4 := by rw [IntKind.wrap_i64]; have := HWD.out; omega
    have HSW := hid (show s' = s.step c.lk x from by rw [HS'.out, hw])
    clear hx hw hbd
    go_wp2_with fail
    refine (H9.out.load ((c.tow i : Int) + 4) x (by omega) HX.out).mono ?_
    rintro e w10 ⟨rfl, B1, F1, hrl⟩
    have HL := hid hrl
    have R10 := hid (hrl.keep.at R9.out H9.out.nB)
    have rz := lt_of_block R10.out
    clear hrl
    have HSB := hid (show s' = s.by c.lk x from by rw [HSW.out]; unfold RS.step; rw [if_pos hn])
    clear hn
    go_wp2_with fail
    refine (r25by R10.out HL.out.rp.c0 HL.out.rp.rlc H.out.ok ⟨(HL.out.rp.ne0 HL.out.nB).1, HQ1.out _ _ _ HL.out.rp.rlc R10.out⟩ HL.out.rp.bl x x0 x1).mono ?_
    rintro e w11 ⟨rfl, hr, hk⟩
    have bf := RS.by_f (lk := c.lk) (x := x) (s := s) H.out.gd.ended
    rw [← HSB.out] at bf
    have HBF := hid bf
    have HR := hid hr
    have HK := hid hk
    have c4 : w11.cell? ⟨q, 4, none⟩ = some (.int .u8 (byPc c.lk x)) := by rw [cell_of hr]; rfl
    have z11 := lt_of_block hr
    clear bf hr hk
    go_wp2
    go_quiet (fail)
    go_wp2
    go_ret2
    refine RRTo.pre K9.out (HL.out.done HACC.out (s' := s') ⟨alt, 0, false, ?_, ?_, ?_, ?_⟩ (HK.out.drewN _) _ ?_)
    · rw [HBF.out.th, HBF.out.tw, HBF.out.tr, HBF.out.nx, HBF.out.st, HBF.out.fl, HBF.out.er]; exact HR.out
    · intro e; rw [HBF.out.nx] at e; exact absurd e (byPc_27 _ _)
    · intro _; exact ⟨rfl, rfl⟩
    · intro e
      have h0 := HBF.out.vl e
      rw [HBF.out.en] at e
      exact ⟨h0.1.symm, h0.2.symm, by rw [HBF.out.nx]; exact beq_iff_eq.1 e⟩
    · rw [HBF.out.en]; rfl
  · have hn0 : True := trivial
    have dn23 : (s.next == 23) = false := beq_eq_false_iff_ne.2 (by omega)
    have dn24 : (s.next == 24) = true := beq_iff_eq.2 hn
    have hen := H.out.gd.en hn
    have hen0 := fEntry_rng (w := s.state)
    have hdw : c.descs + c.lk ≤ c.words := by obtain ⟨a1, a2, a3, a4, a5, a6, a7, a8, a9⟩ := plc_lt c; omega
    obtain ⟨x, hx, x0, x1⟩ := H.out.wd.at (k := c.descs + (fEntry s.state).toNat) (by omega)
    have hw : s.word (c.tow i) c.descs ws = x := by unfold RS.word RS.at; rw [if_neg (by omega), if_pos hn, hx]; rfl
    have HACC := hid (show (log ++ [⟨s.th, (c.descs : Int) + fEntry s.state, 1, x, x, false⟩] : List Acc) = log ++ [ac] from by
      have ha : ((s.at (c.tow i) c.descs : Nat) : Int) = (c.descs : Int) + fEntry s.state := by unfold RS.at; rw [if_neg (by omega), if_pos hn]; omega
      rw [HAC.out]; unfold RS.acc; rw [hw, ha])
    have HX := hid (show ws[((c.descs : Int) + fEntry s.state).toNat]? = some x from by rw [show ((c.descs : Int) + fEntry s.state).toNat = c.descs + (fEntry s.state).toNat by omega]; exact hx)
    have wa : IntKind.i64.wrap ((c.descs : Int) + fEntry s.state) = (c.descs : Int) + fEntry s.state := by rw [IntKind.wrap_i64]; have := HWD.out; omega
    have ha0 : 0 ≤ (c.descs : Int) + fEntry s.state := by omega
    have HA0 := hid ha0
    have HSW := hid (show s' = if (fDecide s.state x).2.2 ≠ 0 ∨ (fDecide s.state x).1 = false then s.fin 0 false else if (fDecide s.state x).2.1 = true then { s with next := 26 } else { s with next := 25 } from by rw [HS'.out, hw]; unfold RS.step; rw [if_neg (by omega), if_pos hn])
    have HSTR := hid H.out.gd.st
    clear hx hw hen hen0 hdw ha0 hn
    have p5 : w9.cell? ⟨q, 5, none⟩ = some (.int .u64 s.state) := by rw [cell_of R9.out]; rfl
    have pl0 := H9.out.rp.c0
    have pl20 := H9.out.rp.rlc.c20
    have plz := H9.out.rp.rlc.lt
    have KD9 := hid ((Keep.refl Nil w9).drew)
    go_upto_region 11 with fail
    go_region_held3 (fun w' => w'.cell? ⟨q, 1, none⟩ = some (.int .i64 s.th) ∧ w'.cell? ⟨q, 0, none⟩ = some (.pointer (some ⟨rb, 0, none⟩)) ∧ w'.cell? ⟨rb, 0, none⟩ = some (.pointer (some ⟨l, 0, none⟩)) ∧ w'.cell? ⟨l, 20, none⟩ = some (.int .i64 c.descs) ∧ w'.cell? ⟨q, 5, none⟩ = some (.int .u64 s.state)) (first | (exact s9; done) | go_keep)
      (first
        | (go_at_call 122; (with_reducible refine (r1entry s.state HSTR.out.1 HSTR.out.2).mono ?_); rintro e w10 ⟨rfl, rfl⟩)
        | (go_at_call 101; (with_reducible refine ((H9.out.quiet KD9.out).load ((c.descs : Int) + fEntry s.state) x HA0.out HX.out).mono ?_); rintro e w10 ⟨rfl, B1, F1, hrl⟩; have HL := hid hrl; have R10 := hid (hrl.keep.at (KD9.out.at R9.out (fun h => h)) H9.out.nB); have s9 : w10.cell? ⟨q, 1, none⟩ = some (.int .i64 s.th) ∧ w10.cell? ⟨q, 0, none⟩ = some (.pointer (some ⟨rb, 0, none⟩)) ∧ w10.cell? ⟨rb, 0, none⟩ = some (.pointer (some ⟨l, 0, none⟩)) ∧ w10.cell? ⟨l, 20, none⟩ = some (.int .i64 c.descs) ∧ w10.cell? ⟨q, 5, none⟩ = some (.int .u64 s.state) := ⟨(by rw [cell_of R10.out]; rfl), (by rw [cell_of R10.out]; rfl), hrl.rp.c0, hrl.rp.rlc.c20, (by rw [cell_of R10.out]; rfl)⟩; have rz := lt_of_block R10.out; clear hrl))
    have p5 : w10.cell? ⟨q, 5, none⟩ = some (.int .u64 s.state) := by rw [cell_of R10.out]; rfl
    have c4 : w10.cell? ⟨q, 4, none⟩ = some (.int .u8 s.next) := by rw [cell_of R10.out]; rfl
    have f10 : ∀ i, w10.frozen? ⟨q, i, none⟩ = false := fun i => free_of R10.out i
    go_wp2_with fail
    refine (r1decide s.state x HSTR.out.1 HSTR.out.2 x0 x1).mono ?_
    have HERR := hid (fDecide_err (s := s.state) (d := x))
    generalize fDecide s.state x = dd at *
    obtain ⟨dp, da, de⟩ := dd
    rintro e w11 ⟨rfl, rfl⟩
    have K10 := hid (show Keep Nil w9 w9.drew from KD9.out)
    cases dp with
    | false =>
      have HSB := hid (show s' = s.fin 0 false from by rw [HSW.out, if_pos (.inr rfl)])
      clear HSW
      go_wp2
      go_quiet (fail)
      go_wp2
      go_ret2
      refine RRTo.pre (K9.out.trans K10.out (fun _ _ h => h)) (HL.out.done HACC.out (s' := s') ⟨alt, 0, false, ?_, ?_, ?_, ?_⟩ (((Keep.refl (fun k => k = q) w10).setCell (p := ⟨q, 4, none⟩) (.inl rfl) _).drewN _) _ ?_)
      · rw [HSB.out]; exact set_same R10.out _
      · rw [HSB.out]; intro e; cases e
      · intro _; exact ⟨rfl, rfl⟩
      · rw [HSB.out]; intro _; exact ⟨rfl, rfl, rfl⟩
      · rw [HSB.out]; rfl
    | true =>
      have hde : ¬ (de ≠ 0 ∨ true = false) := fun h => h.elim (fun h => by have := HERR.out h; cases this) (fun h => by cases h)
      cases da with
      | true =>
        have HSB := hid (show s' = { s with next := 26 } from by rw [HSW.out, if_neg hde, if_pos rfl])
        clear HSW hde
        go_wp2
        go_quiet (fail)
        go_wp2
        go_ret2
        refine RRTo.pre (K9.out.trans K10.out (fun _ _ h => h)) (HL.out.done HACC.out (s' := s') ⟨alt, 0, false, ?_, ?_, ?_, ?_⟩ (((Keep.refl (fun k => k = q) w10).setCell (p := ⟨q, 4, none⟩) (.inl rfl) _).drewN _) _ ?_)
        · rw [HSB.out]; exact set_same R10.out _
        · rw [HSB.out]; intro e; cases e
        · intro _; exact ⟨rfl, rfl⟩
        · rw [HSB.out]; intro e; rw [show ({ s with next := 26 } : RS).ended = s.ended from rfl, H.out.gd.ended] at e; cases e
        · rw [HSB.out, show ({ s with next := 26 } : RS).ended = s.ended from rfl, H.out.gd.ended]; rfl
      | false =>
        have HSB := hid (show s' = { s with next := 25 } from by rw [HSW.out, if_neg hde]; exact if_neg (show ¬ (false = true) from fun h => by cases h))
        clear HSW hde
        go_wp2
        go_quiet (fail)
        go_wp2
        go_ret2
        refine RRTo.pre (K9.out.trans K10.out (fun _ _ h => h)) (HL.out.done HACC.out (s' := s') ⟨alt, 0, false, ?_, ?_, ?_, ?_⟩ (((Keep.refl (fun k => k = q) w10).setCell (p := ⟨q, 4, none⟩) (.inl rfl) _).drewN _) _ ?_)
        · rw [HSB.out]; exact set_same R10.out _
        · rw [HSB.out]; intro e; cases e
        · intro _; exact ⟨rfl, rfl⟩
        · rw [HSB.out]; intro e; rw [show ({ s with next := 25 } : RS).ended = s.ended from rfl, H.out.gd.ended] at e; cases e
        · rw [HSB.out, show ({ s with next := 25 } : RS).ended = s.ended from rfl, H.out.gd.ended]; rfl
  · have hn0 : True := trivial
    have dn23 : (s.next == 23) = false := beq_eq_false_iff_ne.2 (by omega)
    have dn24 : (s.next == 24) = false := beq_eq_false_iff_ne.2 (by omega)
    have dn25 : (s.next == 25) = true := beq_iff_eq.2 hn
    obtain ⟨x, hx, x0, x1⟩ := H.out.word 1 (by omega)
    have hw : s.word (c.tow i) c.descs ws = x := by unfold RS.word RS.at; rw [if_neg (by omega), if_neg (by omega), if_pos hn, hx]; rfl
    have HACC := hid (show (log ++ [⟨s.th, (c.tow i : Int) + 1, 1, x, x, false⟩] : List Acc) = log ++ [ac] from by
      have ha : ((s.at (c.tow i) c.descs : Nat) : Int) = (c.tow i : Int) + 1 := by unfold RS.at; rw [if_neg (by omega), if_neg (by omega), if_pos hn]; rfl
      rw [HAC.out]; unfold RS.acc; rw [hw, ha])
    have HX := hid (show ws[((c.tow i : Int) + 1).toNat]? = some x from by rw [show ((c.tow i : Int) + 1).toNat = c.tow i + 1 by omega]; exact hx)
    have hbd := (c.tow_rng (List.getElem?_eq_some_iff.1 H.out.hx).1).2
    have wa : IntKind.i64.wrap ((c.tow i : Int) + 1) = (c.tow i : Int) + 1 := by rw [IntKind.wrap_i64]; have := HWD.out; omega
    have HSW := hid (show s' = s.step c.lk x from by rw [HS'.out, hw])
    clear hx hw hbd
    go_wp2_with fail
    refine (H9.out.load ((c.tow i : Int) + 1) x (by omega) HX.out).mono ?_
    rintro e w10 ⟨rfl, B1, F1, hrl⟩
    have HL := hid hrl
    have R10 := hid (hrl.keep.at R9.out H9.out.nB)
    have rz := lt_of_block R10.out
    clear hrl
    have HSB := hid (show s' = s.fin x true from by rw [HSW.out]; unfold RS.step; rw [if_neg (by omega), if_neg (by omega), if_pos hn])
    clear hn
    go_wp2_with fail
    refine (r25ends R10.out x).mono ?_
    rintro e w11 ⟨rfl, hr, hk⟩
    have HR := hid hr
    have HK := hid hk
    have c4 : w11.cell? ⟨q, 4, none⟩ = some (.int .u8 0) := by rw [cell_of hr]; rfl
    have z11 := lt_of_block hr
    clear hr hk
    go_wp2
    go_quiet (fail)
    go_wp2
    go_ret2
    refine RRTo.pre K9.out (HL.out.done HACC.out (s' := s') ⟨alt, x, true, ?_, ?_, ?_, ?_⟩ (HK.out.drewN _) _ ?_)
    · rw [HSB.out]; exact HR.out
    · rw [HSB.out]; intro e; cases e
    · rw [HSB.out]; intro e; cases e
    · rw [HSB.out]; intro _; exact ⟨rfl, rfl, rfl⟩
    · rw [HSB.out]; rfl
  · have hn0 : True := trivial
    have dn23 : (s.next == 23) = false := beq_eq_false_iff_ne.2 (by omega)
    have dn24 : (s.next == 24) = false := beq_eq_false_iff_ne.2 (by omega)
    have dn25 : (s.next == 25) = false := beq_eq_false_iff_ne.2 (by omega)
    have dn26 : (s.next == 26) = true := beq_iff_eq.2 hn
    obtain ⟨x, hx, x0, x1⟩ := H.out.word 2 (by omega)
    have hw : s.word (c.tow i) c.descs ws = x := by unfold RS.word RS.at; rw [if_neg (by omega), if_neg (by omega), if_neg (by omega), if_pos hn, hx]; rfl
    have HACC := hid (show (log ++ [⟨s.th, (c.tow i : Int) + 2, 1, x, x, false⟩] : List Acc) = log ++ [ac] from by
      have ha : ((s.at (c.tow i) c.descs : Nat) : Int) = (c.tow i : Int) + 2 := by unfold RS.at; rw [if_neg (by omega), if_neg (by omega), if_neg (by omega), if_pos hn]; rfl
      rw [HAC.out]; unfold RS.acc; rw [hw, ha])
    have HX := hid (show ws[((c.tow i : Int) + 2).toNat]? = some x from by rw [show ((c.tow i : Int) + 2).toNat = c.tow i + 2 by omega]; exact hx)
    have hbd := (c.tow_rng (List.getElem?_eq_some_iff.1 H.out.hx).1).2
    have wa : IntKind.i64.wrap ((c.tow i : Int) + 2) = (c.tow i : Int) + 2 := by rw [IntKind.wrap_i64]; have := HWD.out; omega
    have HSW := hid (show s' = s.step c.lk x from by rw [HS'.out, hw])
    clear hx hw hbd
    go_wp2_with fail
    refine (H9.out.load ((c.tow i : Int) + 2) x (by omega) HX.out).mono ?_
    rintro e w10 ⟨rfl, B1, F1, hrl⟩
    have HL := hid hrl
    have R10 := hid (hrl.keep.at R9.out H9.out.nB)
    have rz := lt_of_block R10.out
    clear hrl
    have HSB := hid (show s' = { s with value := x, next := 27 } from by rw [HSW.out]; unfold RS.step; rw [if_neg (by omega), if_neg (by omega), if_neg (by omega), if_pos hn])
    have c6 : w10.cell? ⟨q, 6, none⟩ = some (.int .u64 alt) := by rw [cell_of R10.out]; rfl
    have c4 : w10.cell? ⟨q, 4, none⟩ = some (.int .u8 s.next) := by rw [cell_of R10.out]; rfl
    have f10 : ∀ i, w10.frozen? ⟨q, i, none⟩ = false := fun i => free_of R10.out i
    clear hn
    go_wp2
    go_quiet (fail)
    go_wp2
    go_ret2
    refine RRTo.pre K9.out (HL.out.done HACC.out (s' := s') ⟨x, 0, false, ?_, ?_, ?_, ?_⟩ ((((Keep.refl (fun k => k = q) w10).setCell (p := ⟨q, 6, none⟩) (.inl rfl) _).setCell (p := ⟨q, 4, none⟩) (.inl rfl) _).drewN _) _ ?_)
    · rw [HSB.out]; exact set_same (set_same R10.out _) _
    · rw [HSB.out]; intro _; rfl
    · intro _; exact ⟨rfl, rfl⟩
    · rw [HSB.out]; intro e; rw [show ({ s with value := x, next := 27 } : RS).ended = s.ended from rfl, H.out.gd.ended] at e; cases e
    · rw [HSB.out, show ({ s with value := x, next := 27 } : RS).ended = s.ended from rfl, H.out.gd.ended]; rfl
  · have hn0 : True := trivial
    have dn23 : (s.next == 23) = false := beq_eq_false_iff_ne.2 (by omega)
    have dn24 : (s.next == 24) = false := beq_eq_false_iff_ne.2 (by omega)
    have dn25 : (s.next == 25) = false := beq_eq_false_iff_ne.2 (by omega)
    have dn26 : (s.next == 26) = false := beq_eq_false_iff_ne.2 (by omega)
    have dn27 : (s.next == 27) = true := beq_iff_eq.2 hn
    obtain ⟨x, hx, x0, x1⟩ := H.out.word 4 (by omega)
    have hw : s.word (c.tow i) c.descs ws = x := by unfold RS.word RS.at; rw [if_neg (by omega), if_neg (by omega), if_neg (by omega), if_neg (by omega), hx]; rfl
    have HACC := hid (show (log ++ [⟨s.th, (c.tow i : Int) + 4, 1, x, x, false⟩] : List Acc) = log ++ [ac] from by
      have ha : ((s.at (c.tow i) c.descs : Nat) : Int) = (c.tow i : Int) + 4 := by unfold RS.at; rw [if_neg (by omega), if_neg (by omega), if_neg (by omega), if_neg (by omega)]; rfl
      rw [HAC.out]; unfold RS.acc; rw [hw, ha])
    have HX := hid (show ws[((c.tow i : Int) + 4).toNat]? = some x from by rw [show ((c.tow i : Int) + 4).toNat = c.tow i + 4 by omega]; exact hx)
    have hbd := (c.tow_rng (List.getElem?_eq_some_iff.1 H.out.hx).1).2
    have wa : IntKind.i64.wrap ((c.tow i : Int) + 4) = (c.tow i : Int) + 4 := by rw [IntKind.wrap_i64]; have := HWD.out; omega
    have HSW := hid (show s' = s.step c.lk x from by rw [HS'.out, hw])
    clear hx hw hbd
    go_wp2_with fail
    refine (H9.out.load ((c.tow i : Int) + 4) x (by omega) HX.out).mono ?_
    rintro e w10 ⟨rfl, B1, F1, hrl⟩
    have HL := hid hrl
    have R10 := hid (hrl.keep.at R9.out H9.out.nB)
    have rz := lt_of_block R10.out
    clear hrl
    have HSB := hid (show s' = if x = s.state then s.fin s.value true else if s.fails + 1 = s.tries then { s with fails := s.fails + 1, err := 11 }.fin 0 false else { s with fails := s.fails + 1, value := 0 }.by c.lk x from by rw [HSW.out]; unfold RS.step; rw [if_neg (by omega), if_neg (by omega), if_neg (by omega), if_neg (by omega)])
    have halt := HR27.out hn
    have hfl := H.out.gd.fl
    have p5 : w10.cell? ⟨q, 5, none⟩ = some (.int .u64 s.state) := by rw [cell_of R10.out]; rfl
    have p6 : w10.cell? ⟨q, 6, none⟩ = some (.int .u64 alt) := by rw [cell_of R10.out]; rfl
    have p9 : w10.cell? ⟨q, 9, none⟩ = some (.int .i64 s.fails) := by rw [cell_of R10.out]; rfl
    have f10 : ∀ i, w10.frozen? ⟨q, i, none⟩ = false := fun i => free_of R10.out i
    have wf : IntKind.i64.wrap (s.fails + 1) = s.fails + 1 := by rw [IntKind.wrap_i64]; omega
    clear hn HSW hfl
    by_cases hxs : x = s.state
    · have dx : (x == s.state) = true := beq_iff_eq.2 hxs
      have HSC := hid (show s' = s.fin s.value true from by rw [HSB.out, if_pos hxs])
      have HALT := hid halt
      clear HSB hxs halt
      go_wp2_with fail
      refine (r25ends R10.out alt).mono ?_
      rintro e w11 ⟨rfl, hr, hk⟩
      have HR := hid hr
      have HK := hid hk
      have c4 : w11.cell? ⟨q, 4, none⟩ = some (.int .u8 0) := by rw [cell_of hr]; rfl
      have z11 := lt_of_block hr
      clear hr hk
      go_wp2
      go_quiet (fail)
      go_wp2
      go_ret2
      refine RRTo.pre K9.out (HL.out.done HACC.out (s' := s') ⟨alt, alt, true, ?_, ?_, ?_, ?_⟩ (HK.out.drewN _) _ ?_)
      · rw [HSC.out]; exact HR.out
      · rw [HSC.out]; intro e; cases e
      · rw [HSC.out]; intro e; cases e
      · rw [HSC.out]; intro _; exact ⟨HALT.out, rfl, rfl⟩
      · rw [HSC.out]; rfl
    · have dx : (x == s.state) = false := beq_eq_false_iff_ne.2 hxs
      by_cases hft : s.fails + 1 = s.tries
      · have dt : (s.fails + 1 == s.tries) = true := beq_iff_eq.2 hft
        have HSC := hid (show s' = { s with fails := s.fails + 1, err := 11 }.fin 0 false from by rw [HSB.out, if_neg hxs, if_pos hft])
        clear HSB hxs halt hft
        go_upto_region 29 with fail
        obtain ⟨Z, hZ⟩ : ∃ Z : World, Z = w10.setCell ⟨q, 9, none⟩ (.int .i64 (s.fails + 1)) := ⟨_, rfl⟩
        rw [← hZ]
        have RZ := hid (show RRaw Z q rb s.th s.tower s.tries s.next s.state alt 0 false (s.fails + 1) s.err from by rw [hZ]; exact set_same R10.out _)
        have KZ := hid (show Keep (fun k => k = q) w10 Z from by rw [hZ]; exact (Keep.refl (fun k => k = q) w10).setCell (p := ⟨q, 9, none⟩) (.inl rfl) _)
        have z9 : Z.cell? ⟨q, 9, none⟩ = some (.int .i64 (s.fails + 1)) := by rw [cell_of RZ.out]; rfl
        have z3 : Z.cell? ⟨q, 3, none⟩ = some (.int .i64 s.tries) := by rw [cell_of RZ.out]; rfl
        have z10 : Z.cell? ⟨q, 10, none⟩ = some (.int .i64 s.err) := by rw [cell_of RZ.out]; rfl
        have z4 : Z.cell? ⟨q, 4, none⟩ = some (.int .u8 s.next) := by rw [cell_of RZ.out]; rfl
        have zf : ∀ i, Z.frozen? ⟨q, i, none⟩ = false := fun i => free_of RZ.out i
        have zz := lt_of_block RZ.out
        clear hZ p5 p6 p9 f10 wf
        go_quiet (fail)
        go_wp2
        go_quiet (fail)
        go_wp2
        go_ret2
        refine RRTo.pre K9.out (HL.out.done HACC.out (s' := s') ⟨alt, 0, false, ?_, ?_, ?_, ?_⟩ ((((KZ.out.drewN _).setCell (p := ⟨q, 10, none⟩) (.inl rfl) _).setCell (p := ⟨q, 4, none⟩) (.inl rfl) _).drewN _) _ ?_)
        · rw [HSC.out]; exact set_same (set_same RZ.out _) _
        · rw [HSC.out]; intro e; cases e
        · intro _; exact ⟨rfl, rfl⟩
        · rw [HSC.out]; intro _; exact ⟨rfl, rfl, rfl⟩
        · rw [HSC.out]; rfl
      · have dt : (s.fails + 1 == s.tries) = false := beq_eq_false_iff_ne.2 hft
        have HSC := hid (show s' = { s with fails := s.fails + 1, value := 0 }.by c.lk x from by rw [HSB.out, if_neg hxs, if_neg hft])
        clear HSB hxs halt hft
        go_upto_region 29 with fail
        obtain ⟨Z, hZ⟩ : ∃ Z : World, Z = w10.setCell ⟨q, 9, none⟩ (.int .i64 (s.fails + 1)) := ⟨_, rfl⟩
        rw [← hZ]
        have RZ := hid (show RRaw Z q rb s.th s.tower s.tries s.next s.state alt 0 false (s.fails + 1) s.err from by rw [hZ]; exact set_same R10.out _)
        have KZ := hid (show Keep (fun k => k = q) w10 Z from by rw [hZ]; exact (Keep.refl (fun k => k = q) w10).setCell (p := ⟨q, 9, none⟩) (.inl rfl) _)
        have z9 : Z.cell? ⟨q, 9, none⟩ = some (.int .i64 (s.fails + 1)) := by rw [cell_of RZ.out]; rfl
        have z3 : Z.cell? ⟨q, 3, none⟩ = some (.int .i64 s.tries) := by rw [cell_of RZ.out]; rfl
        have zz := lt_of_block RZ.out
        clear hZ p5 p6 p9 f10 wf
        go_quiet (fail)
        obtain ⟨Y, hY⟩ : ∃ Y : World, Y = Z.drewN nq := ⟨_, rfl⟩
        rw [← hY]
        have RY := hid (show RRaw Y q rb s.th s.tower s.tries s.next s.state alt 0 false (s.fails + 1) s.err from by rw [hY]; exact RZ.out)
        have KY := hid (show Keep (fun k => k = q) w10 Y from by rw [hY]; exact KZ.out.drewN _)
        clear hY z9 z3 zz
        have rpY := HL.out.rp.keep KY.out (fun k hk1 e => HL.out.nB (by have e2 : k = q := e; rw [← e2]; exact hk1))
        have HRPY := hid rpY
        clear rpY
        go_wp2_with fail
        refine (r25by RY.out HRPY.out.c0 HRPY.out.rlc H.out.ok ⟨(HRPY.out.ne0 HL.out.nB).1, HQ1.out _ _ _ HL.out.rp.rlc R10.out⟩ HRPY.out.bl x x0 x1).mono ?_
        rintro e w11 ⟨rfl, hr, hk⟩
        have bf := RS.by_f (lk := c.lk) (x := x) (s := { s with fails := s.fails + 1, value := 0 }) H.out.gd.ended
        rw [← HSC.out] at bf
        have HBF := hid bf
        have HR := hid hr
        have HK := hid hk
        have c4 : w11.cell? ⟨q, 4, none⟩ = some (.int .u8 (byPc c.lk x)) := by rw [cell_of hr]; rfl
        have z11 := lt_of_block hr
        clear bf hr hk
        go_wp2
        go_quiet (fail)
        go_wp2
        go_ret2
        refine RRTo.pre K9.out (HL.out.done HACC.out (s' := s') ⟨alt, 0, false, ?_, ?_, ?_, ?_⟩ ((KY.out.trans HK.out (fun _ _ h => h)).drewN _) _ ?_)
        · rw [HBF.out.th, HBF.out.tw, HBF.out.tr, HBF.out.nx, HBF.out.st, HBF.out.fl, HBF.out.er]; exact HR.out
        · intro e; rw [HBF.out.nx] at e; exact absurd e (byPc_27 _ _)
        · intro _; exact ⟨rfl, rfl⟩
        · intro e
          have h0 := HBF.out.vl e
          rw [HBF.out.en] at e
          exact ⟨h0.1.symm, h0.2.symm, by rw [HBF.out.nx]; exact beq_iff_eq.1 e⟩
        · rw [HBF.out.en]; rfl
end
end Go.Proofs.YtmafdjhjmnghcaaGreat

/-! ReadMatches: what lies in the world at each round. -/
set_option linter.unusedVariables false
set_option linter.unusedSimpArgs false
namespace Go.Proofs.YtmafdjhjmnghcaaGreat
open Go.RowKit Go.Lf
section
variable {w : World} {c : Cfg} {b rb q r : Nat} {s : RS}
set_option maxHeartbeats 1000000 in
theorem rstep_idle (h : ReadAt w r b s) (he : s.ended = true) : Calls Tryz.prog 34 #[.pointer (some ⟨r, 0, none⟩)] w fun e w' => e = .returned (.tuple #[.int .u8 0, .bool false]) ∧ w = w' := by
  have c8 : w.cell? ⟨r, 8, none⟩ = some (.bool true) := by rw [cell_of h, he]; rfl
  have z := lt_of_block h
  clear h he
  go_enter Tryz.func34, Tryz.ntmps34
  go_wp2
  go_ret2
  exact ⟨rfl, rfl⟩
set_option maxRecDepth 100000 in
set_option maxHeartbeats 1000000 in
theorem r25idle (h : RReadAt w q rb s) (hn : s.next = 0) : Calls Tryz.prog 61 #[.pointer (some ⟨q, 0, none⟩)] w fun e w' => e = .returned (.tuple #[.int .u8 0, .bool false]) ∧ w = w' := by
  have HN := hid (r25next h)
  rw [hn] at HN
  clear h hn
  go_enter Tryz.func61, Tryz.ntmps61
  go_wp2_with fail
  refine HN.out.mono ?_
  rintro e w' ⟨rfl, rfl⟩
  go_wp2
  go_ret2
  exact ⟨rfl, rfl⟩
set_option maxHeartbeats 2000000 in
theorem r25new_arg (t tw tr : Int) (h : t < 0 ∨ 64 ≤ t ∨ tr < 0 ∨ 255 < tr) : Calls Tryz.prog 59 #[.pointer (some ⟨rb, 0, none⟩), .int .i64 t, .int .i64 tw, .int .i64 tr] w fun e w' => e = .returned (.tuple #[.pointer none, .int .i64 2]) ∧ w = w' := by
  by_cases ht : t < 0 ∨ 64 ≤ t
  · have HT := hid (@thread_no t ht w)
    clear h ht
    go_enter Tryz.func59, Tryz.ntmps59
    go_wp2_with fail
    refine HT.out.mono ?_
    rintro e w' ⟨rfl, rfl⟩
    go_wp2
    go_ret2
    exact ⟨rfl, rfl⟩
  · have HT := hid (@thread_yes t (by omega) (by omega) w)
    by_cases h1 : tr < 0
    · have d1 : decide (tr < 0) = true := decide_eq_true h1
      clear h ht h1
      go_enter Tryz.func59, Tryz.ntmps59
      go_wp2_with fail
      refine HT.out.mono ?_
      rintro e w' ⟨rfl, rfl⟩
      go_wp2
      go_ret2
      exact ⟨rfl, rfl⟩
    · have d1 : decide (tr < 0) = false := decide_eq_false h1
      have d2 : decide (255 < tr) = true := decide_eq_true (by omega)
      clear h ht h1
      go_enter Tryz.func59, Tryz.ntmps59
      go_wp2_with fail
      refine HT.out.mono ?_
      rintro e w' ⟨rfl, rfl⟩
      go_wp2
      go_ret2
      exact ⟨rfl, rfl⟩
set_option maxHeartbeats 2000000 in
theorem r25new_range {l : Nat} (hrb : w.cell? ⟨rb, 0, none⟩ = some (.pointer (some ⟨l, 0, none⟩))) (hl : RLC w l c) (hz : rb < w.heap.size) (t tw tr : Int) (t0 : 0 ≤ t) (t1 : t < 64) (r0 : 0 ≤ tr) (r1 : tr ≤ 255) (hw : tw < 1 ∨ (c.nT : Int) < tw) : Calls Tryz.prog 59 #[.pointer (some ⟨rb, 0, none⟩), .int .i64 t, .int .i64 tw, .int .i64 tr] w fun e w' => e = .returned (.tuple #[.pointer none, .int .i64 3]) ∧ w = w' := by
  have HT := hid (@thread_yes t t0 t1 w)
  have HH := hid (rheight_bad hl tw hw)
  have d1 : decide (tr < 0) = false := decide_eq_false (by omega)
  have d2 : decide (255 < tr) = false := decide_eq_false (by omega)
  clear hl hw t0 t1 r0 r1
  go_enter Tryz.func59, Tryz.ntmps59
  go_wp2_with fail
  refine HT.out.mono ?_
  rintro e w' ⟨rfl, rfl⟩
  go_wp2_with fail
  refine HH.out.mono ?_
  rintro e w' ⟨rfl, rfl⟩
  go_wp2
  go_ret2
  exact ⟨rfl, rfl⟩
set_option maxRecDepth 100000 in
set_option maxHeartbeats 2000000 in
theorem r25new_ok {l : Nat} (hrb : w.cell? ⟨rb, 0, none⟩ = some (.pointer (some ⟨l, 0, none⟩))) (hl : RLC w l c) (hz : rb < w.heap.size) (hnt : c.nT ≤ 65536) (t tr : Int) (t0 : 0 ≤ t) (t1 : t < 64) (r0 : 0 ≤ tr) (r1 : tr ≤ 255) {k x : Nat} (hx : c.hs[k]? = some x) (tw : Int) (ht : tw = (k : Int) + 1) : Calls Tryz.prog 59 #[.pointer (some ⟨rb, 0, none⟩), .int .i64 t, .int .i64 tw, .int .i64 tr] w fun e w' => e = .returned (.tuple #[.pointer (some ⟨w.heap.size, 0, none⟩), .int .i64 0]) ∧ RReadAt w' w.heap.size rb (RS.init t tw tr) ∧ Keep Nil w w' := by
  have HT := hid (@thread_yes t t0 t1 w)
  have HH := hid (rheight_ok hl hnt hx tw ht)
  have d1 : decide (tr < 0) = false := decide_eq_false (by omega)
  have d2 : decide (255 < tr) = false := decide_eq_false (by omega)
  clear hl hx ht t0 t1 r0 r1 hnt
  go_enter Tryz.func59, Tryz.ntmps59
  go_wp2_with fail
  refine HT.out.mono ?_
  rintro e w' ⟨rfl, rfl⟩
  go_wp2_with fail
  refine HH.out.mono ?_
  rintro e w' ⟨rfl, rfl⟩
  go_wp2
  go_ret2
  exact ⟨rfl, ⟨0, 0, false, heap_alloc_new w _, (fun e => by cases e), (fun _ => ⟨rfl, rfl⟩), (fun e => by cases e)⟩, (Keep.refl Nil w).alloc _⟩
end
section
variable {ω : Type} {O : OpLies ω} {c : Cfg} {b mb rb rm r q k m : Nat} {w wr w' : World} {L : Nat → Prop} {x y : List Int × List Acc} {ops : List ω} {bl : List Nat} {s s' : RS} {th tries : Int} {tb : Nat}
theorem tm_new {ω : Type} {O : OpLies ω} {ops : List ω} {bl : List Nat} (h : T2 O (RReadO rb) c b mb rb rm w L x ops bl y [] [] wr) (hok : c.ok) (t tw tr : Int) (t0 : 0 ≤ t) (t1 : t < 64) (r0 : 0 ≤ tr) (r1 : tr ≤ 255) {k hh : Nat} (hx : c.hs[k]? = some hh) (ht : tw = (k : Int) + 1) :
    Calls Tryz.prog 59 #[.pointer (some ⟨rb, 0, none⟩), .int .i64 t, .int .i64 tw, .int .i64 tr] wr fun e w' => e = .returned (.tuple #[.pointer (some ⟨wr.heap.size, 0, none⟩), .int .i64 0]) ∧ T2 O (RReadO rb) c b mb rb rm w L x ops bl y [RS.init t tw tr] [wr.heap.size] w' ∧ Keep (Out w L) wr w' := by
  refine h.call2 (r' := (y, [RS.init t tw tr], [wr.heap.size])) (fun A hA => ?_)
  obtain ⟨F, ho⟩ := hA
  obtain ⟨l, F1, G, hsp⟩ := ho.sys
  refine (r25new_ok hsp.c0 hsp.rlc hsp.bl (by have := hok.nT; omega) t tr t0 t1 r0 r1 hx tw ht).mono ?_
  rintro e w' ⟨rfl, h1, h2⟩
  exact ⟨rfl, ho.new (o := RS.init t tw tr) ⟨l, F1, G, hsp.quiet h2⟩ h1 (h2.mono (fun _ _ h => h.elim))⟩
theorem tm_at (h : T2 O (RReadO rb) c b mb rb rm w L x ops bl y [s] [q] wr) : RReadAt wr q rb s := by
  obtain ⟨A, F, ho⟩ := h.has2
  exact (ho.objs 0 q s rfl rfl).1
def TmStepTo {ω : Type} (O : OpLies ω) (c : Cfg) (b mb rb rm : Nat) (w wr : World) (L : Nat → Prop) (x : List Int × List Acc) (ops : List ω) (bl : List Nat) (ws : List Int) (log : List Acc) (pc : Int) (s' : RS) (q : Nat) (e : Ending) (w' : World) : Prop :=
  e = .returned (.tuple #[.int .u8 pc, .bool s'.ended]) ∧ T2 O (RReadO rb) c b mb rb rm w L x ops bl (ws, log) [s'] [q] w' ∧ Keep (Out w L) wr w'
theorem tm_step (h : T2 O (RReadO rb) c b mb rb rm w L x ops bl y [s] [q] wr) (hok : c.ok) {i hh : Nat} (hx : c.hs[i]? = some hh) (htw : s.tower = i + 1) (t0 : 0 ≤ s.th) (t1 : s.th < 64) (hwd : WdOk c y.1) (hlg : y.2.length < 1000000000000) (hg : s.good c.lk) :
    Calls Tryz.prog 61 #[.pointer (some ⟨q, 0, none⟩)] wr (TmStepTo O c b mb rb rm w wr L x ops bl y.1 (y.2 ++ [s.acc (c.tow i) c.descs y.1]) s.next (s.step c.lk (s.word (c.tow i) c.descs y.1)) q) := by
  refine h.call2 (r' := ((y.1, y.2 ++ [s.acc (c.tow i) c.descs y.1]), [s.step c.lk (s.word (c.tow i) c.descs y.1)], [q])) (fun A hA => ?_)
  obtain ⟨F, ho⟩ := hA
  obtain ⟨l, F1, G, hsp⟩ := ho.sys
  obtain ⟨hat, nA⟩ := ho.objs 0 q s rfl rfl
  have hR : RR wr F c rb rm l q F1 G y.1 y.2 s i hh := ⟨hsp, hat, nA, hok, hx, htw, t0, t1, hwd, hlg, hg⟩
  refine (r25step hR).mono ?_
  rintro e w' ⟨rfl, F', h1, h2, h3, h4⟩
  have hz : q < wr.heap.size := RReadAt.lt hat
  exact ⟨rfl, ho.one (t := 0) (b := q) rfl h1 h2 (h3.mono (fun k _ e => e)) h4 (fun e => (h4 q e).elim nA (fun e => by omega))⟩
/-- Both reads under way. -/
structure FM (w wr : World) (c : Cfg) (b mb rb rm r q k tb m : Nat) (s : RS) : Prop where
  ex : ∃ x : List Int × List Acc, T2 (ReadO b) (RReadO rb) c b mb rb rm w (fun z => z = tb) x [s] [r] x [s] [q] wr ∧ WdOk c x.1 ∧ x.2.length ≤ m
  going : s.ended = false → s.good c.lk
  over : s.ended = true → s.next = 0
  tw : s.tower = (k : Int) + 1
  th : 0 ≤ s.th ∧ s.th < 64
  fl : 0 ≤ s.fails ∧ s.fails ≤ m
/-- The program's read has made its step. -/
def FMid (w wr : World) (c : Cfg) (b mb rb rm r q k tb m : Nat) (s s' : RS) : Prop :=
  ∃ x : List Int × List Acc, T2 (ReadO b) (RReadO rb) c b mb rb rm w (fun z => z = tb) (x.1, x.2 ++ [s.acc (c.tow k) c.descs x.1]) [s'] [r] x [s] [q] wr ∧ WdOk c x.1 ∧ x.2.length ≤ m ∧ s' = s.step c.lk (s.word (c.tow k) c.descs x.1)
theorem FM.quiet (h : FM w wr c b mb rb rm r q k tb m s) (hk : Keep Nil wr w') : FM w w' c b mb rb rm r q k tb m s := by
  obtain ⟨x, h1, h2⟩ := h.ex
  exact ⟨⟨x, h1.quiet hk, h2⟩, h.going, h.over, h.tw, h.th, h.fl⟩
theorem FM.own (h : FM w wr c b mb rb rm r q k tb m s) : Keep Nil w wr := by
  obtain ⟨x, h1, h2⟩ := h.ex
  exact h1.own
def FmSetTo (w wr : World) (c : Cfg) (b mb rb rm r q k tb m : Nat) (s : RS) (e : Ending) (w' : World) : Prop :=
  e = .returned (.bool true) ∧ FM w w' c b mb rb rm r q k tb m s ∧ Keep (Out w (fun z => z = tb)) wr w'
theorem fm_set (h : FM w wr c b mb rb rm r q k tb m s) (hok : c.ok) (hk : k < c.nT) (t : Int) (ht : t = (k : Int) + 1) (a : Option Addr) (cp : Nat) (l : List SetV) (hrd : Rd wr 4 (.slice a l.length cp) l.length (setCells l)) (hb : ∀ k, 0 < l.length → (Value.slice a l.length cp).ownBlock = some k → ¬ Out w (fun z => z = tb) k) (hwf : ∀ z ∈ l, z.wf) (hn : l.length ≤ 60) (i : Int) (hm : m < 900000) :
    Calls Tryz.prog 49 #[.agg #[.pointer (some ⟨b, 0, none⟩), .pointer (some ⟨rb, 0, none⟩)], .int .i64 t, .slice a l.length cp, .int .i64 i] wr (FmSetTo w wr c b mb rb rm r q k tb (m + 60) s) := by
  obtain ⟨x, h1, h2, h3⟩ := h.ex
  have hx : c.hs[k]? = some c.hs[k] := List.getElem?_eq_getElem hk
  refine (set_ok h1 hok hx t ht a cp l hrd hb hwf (by omega) h2.len h2.len (by omega) (by omega) i).mono ?_
  rintro e w' ⟨rfl, h5, h6⟩
  have p1 := putsS_len (c.tow k) c.descs c.lk i x l
  have p3 := putsS_ok (T := c.tow k) (D := c.descs) (lk := c.lk) (i := i) (y := x) (l := l) h2.wf hwf
  exact ⟨rfl, ⟨⟨_, h5, ⟨p1.1.trans h2.len, p3⟩, by omega⟩, h.going, h.over, h.tw, h.th, by have := h.fl; omega⟩, h6⟩
def FmAto (w wr : World) (c : Cfg) (b mb rb rm r q k tb m : Nat) (s : RS) (e : Ending) (w' : World) : Prop :=
  ∃ s', e = .returned (.tuple #[.int .u8 s.next, .bool s'.ended]) ∧ FMid w w' c b mb rb rm r q k tb m s s' ∧ Keep (Out w (fun z => z = tb)) wr w'
theorem fm_stepA (h : FM w wr c b mb rb rm r q k tb m s) (hok : c.ok) (hk : k < c.nT) (he : s.ended = false) (hm : m < 900000) :
    Calls Tryz.prog 34 #[.pointer (some ⟨r, 0, none⟩)] wr (FmAto w wr c b mb rb rm r q k tb m s) := by
  obtain ⟨x, h1, h2, h3⟩ := h.ex
  have hR : RWf c x.1 x.2.length s k := ⟨hok, hk, h.tw, h.th.1, h.th.2, h2.wf, Nat.le_of_eq h2.len.symm, by omega⟩
  refine (tw_step h1 hR (h.going he)).mono ?_
  rintro e w' ⟨log', ⟨rfl, rfl⟩, ht, hkk⟩
  exact ⟨_, rfl, ⟨x, ht, h2, h3, rfl⟩, hkk⟩
def FmBto (w wr : World) (c : Cfg) (b mb rb rm r q k tb m : Nat) (s s' : RS) (e : Ending) (w' : World) : Prop :=
  e = .returned (.tuple #[.int .u8 s.next, .bool s'.ended]) ∧ FM w w' c b mb rb rm r q k tb (m + 1) s' ∧ Keep (Out w (fun z => z = tb)) wr w'
theorem fm_stepB (h0 : FM w w' c b mb rb rm r q k tb m s) (h : FMid w wr c b mb rb rm r q k tb m s s') (hok : c.ok) (hk : k < c.nT) (he : s.ended = false) (hm : m < 900000) :
    Calls Tryz.prog 61 #[.pointer (some ⟨q, 0, none⟩)] wr (FmBto w wr c b mb rb rm r q k tb m s s') := by
  obtain ⟨x, h1, h2, h3, rfl⟩ := h
  have hx : c.hs[k]? = some c.hs[k] := List.getElem?_eq_getElem hk
  have hg := h0.going he
  refine (tm_step h1 hok hx h0.tw h0.th.1 h0.th.2 h2 (by omega) hg).mono ?_
  rintro e w2 ⟨rfl, ht, hkk⟩
  obtain ⟨q1, q2, q3⟩ := RS.step_tower (lk := c.lk) (s := s) (x := s.word (c.tow k) c.descs x.1)
  have hlt := (c.tow_rng hk).2
  have hdw : c.descs + c.lk ≤ c.words := by obtain ⟨a1, a2, a3, a4, a5, a6, a7, a8, a9⟩ := plc_lt c; omega
  have hat : s.at (c.tow k) c.descs < c.words := by
    unfold RS.at
    rcases hg.nx with e | e | e | e | e
    · rw [if_pos e]; omega
    · rw [if_neg (by omega), if_pos e]
      have h5 := hg.en e
      have h7 := hok.lk1
      omega
    · rw [if_neg (by omega), if_neg (by omega), if_pos e]; omega
    · rw [if_neg (by omega), if_neg (by omega), if_neg (by omega), if_pos e]; omega
    · rw [if_neg (by omega), if_neg (by omega), if_neg (by omega), if_neg (by omega)]; omega
  obtain ⟨v, hv, v0, v1⟩ := h2.at hat
  have hwv : s.word (c.tow k) c.descs x.1 = v := by unfold RS.word; rw [hv]; rfl
  have hfs := RS.step_fails (lk := c.lk) (s := s) (w := s.word (c.tow k) c.descs x.1)
  have hfl := h0.fl
  refine ⟨rfl, ⟨⟨_, ht, h2, by simp; omega⟩, fun e => ?_, fun e => ?_, q1.trans h0.tw, by rw [q2]; exact h0.th, by omega⟩, hkk⟩
  · rw [hwv] at e ⊢
    exact RS.step_good hg v0 v1 (by omega) e
  · exact (RS.step_r (lk := c.lk) (tries := 0) (w := s.word (c.tow k) c.descs x.1) hg).nx e
theorem fm_idleA (h : FM w wr c b mb rb rm r q k tb m s) (he : s.ended = true) : Calls Tryz.prog 34 #[.pointer (some ⟨r, 0, none⟩)] wr fun e w' => e = .returned (.tuple #[.int .u8 0, .bool false]) ∧ wr = w' := by
  obtain ⟨x, h1, h2⟩ := h.ex
  exact rstep_idle (tw_at h1) he
theorem fm_idleB (h : FM w wr c b mb rb rm r q k tb m s) (he : s.ended = true) : Calls Tryz.prog 61 #[.pointer (some ⟨q, 0, none⟩)] wr fun e w' => e = .returned (.tuple #[.int .u8 0, .bool false]) ∧ wr = w' := by
  obtain ⟨x, h1, h2⟩ := h.ex
  exact r25idle (tm_at h1) (h.over he)
set_option maxRecDepth 100000 in
set_option maxHeartbeats 4000000 in
theorem fm_same (h : FM w wr c b mb rb rm r q k tb m s) : Calls Tryz.prog 60 #[.pointer (some ⟨r, 0, none⟩), .pointer (some ⟨q, 0, none⟩)] wr fun e w' => e = .returned (.bool true) ∧ Keep Nil wr w' := by
  obtain ⟨x, h1, h2⟩ := h.ex
  have HA := hid (tw_at h1)
  have HB := hid (tm_at h1)
  have HG := hid h.going
  clear h h1 h2
  cases he : s.ended with
  | false =>
    have HN := hid (show s.next ≠ 0 by have := good_pos (HG.out he); omega)
    go_enter Tryz.func60, Tryz.ntmps60
    go_wp2_with fail
    refine (rres_state HA.out he).mono ?_
    rintro e w1 ⟨rfl, rfl⟩
    go_wp2_with fail
    refine (r25res0 HB.out HN.out).mono ?_
    rintro e w1 ⟨rfl, rfl⟩
    go_wp2_with fail
    refine (rnext_ok HA.out).mono ?_
    rintro e w1 ⟨rfl, rfl⟩
    go_wp2_with fail
    refine (r25next HB.out).mono ?_
    rintro e w1 ⟨rfl, rfl⟩
    go_wp2
    go_ret
    exact ⟨rfl, Keep.refl Nil _⟩
  | true =>
    go_enter Tryz.func60, Tryz.ntmps60
    go_wp2_with fail
    refine (rres_ok HA.out he).mono ?_
    rintro e w1 ⟨rfl, hk1⟩
    have HK1 := hid hk1
    clear hk1
    go_wp2_with fail
    refine (r25res1 (HB.out.keep HK1.out (fun h => h)) he).mono ?_
    rintro e w2 ⟨rfl, hk2⟩
    have HK2 := hid (HK1.out.trans hk2 (fun _ _ h => h))
    clear hk2
    go_wp2_with fail
    refine (rnext_ok (HA.out.keep HK2.out (fun h => h))).mono ?_
    rintro e w3 ⟨rfl, rfl⟩
    go_wp2_with fail
    refine (r25next (HB.out.keep HK2.out (fun h => h))).mono ?_
    rintro e w3 ⟨rfl, rfl⟩
    go_wp2
    go_ret
    exact ⟨rfl, HK2.out⟩
theorem fm_all (h : FM w wr c b mb rb rm r q k tb m s) (hok : c.ok) (hm : m < 900000) : Calls Tryz.prog 58 #[.agg #[.pointer (some ⟨b, 0, none⟩), .pointer (some ⟨rb, 0, none⟩)]] wr fun e w' => e = .returned (.bool true) ∧ Keep Nil wr w' := by
  obtain ⟨x, h1, h2, h3⟩ := h.ex
  exact t2_same h1 hok (by rw [h2.len]; have := words_le c hok; omega) (by omega)
end
end Go.Proofs.YtmafdjhjmnghcaaGreat
