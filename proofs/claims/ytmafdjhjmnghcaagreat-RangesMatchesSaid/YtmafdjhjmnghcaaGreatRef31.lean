/- leapfrogref31: lockings: contracts. -/
import Derived.Test.YtmafdjhjmnghcaaGreatTwoG
import Derived.Test.YtmafdjhjmnghcaaGreatRngLaw
import Derived.Deep.RegionHeld3
set_option linter.unusedVariables false
set_option linter.unusedSimpArgs false
namespace Go.Lf
/-- The state with what comes next. -/
def KS.nx (p : KS × Int) : KS := { p.1 with next := p.2 }
end Go.Lf
namespace Go.Proofs.YtmafdjhjmnghcaaGreat
open Go.RowKit Go.Lf
@[reducible] def rkCells (rb : Nat) (s : KS) : Array Value := #[.pointer (some ⟨rb, 0, none⟩), .int .i64 s.th, .int .i64 s.tries, .int .u64 s.lo, .int .u64 s.hi, .int .u8 s.next, .int .i64 s.entry, .int .i64 s.free, .int .u64 s.low, .bool s.conf, .int .i64 s.fails, .int .i64 s.err]
def RKAt (w : World) (o rb : Nat) (s : KS) : Prop := w.heap[o]? = some (.cells (rkCells rb s) 194 (0, 0))
def RKO (rb : Nat) : OpLies KS where
  at_ w o s := RKAt w o rb s
  keep := fun h hk hn => hk.at h hn
  lt := fun h => lt_of_block h
section
variable {w w' : World} {B : Nat → Prop} {c : Cfg} {rb rm l o : Nat} {F G : Nat → Prop} {ws : List Int} {log : List Acc} {s : KS} {t lo hi tr : Int}
set_option maxHeartbeats 1000000 in
theorem r2check_ok (lo hi : Int) (e : Int) (he : e = if hi < lo then 13 else 0) : Calls Tryz.prog 97 #[.agg #[.int .u64 lo, .int .u64 hi]] w fun e' w' => e' = .returned (.int .i64 e) ∧ Keep Nil w w' := by
  by_cases h : hi < lo
  · rw [if_pos h] at he
    subst he
    have d : decide (hi < lo) = true := decide_eq_true h
    go_enter Tryz.func97, Tryz.ntmps97
    go_wp2
    go_ret
    exact ⟨rfl, Keep.alloc (Keep.refl _ _) _⟩
  · rw [if_neg h] at he
    subst he
    have d : decide (hi < lo) = false := decide_eq_false h
    go_enter Tryz.func97, Tryz.ntmps97
    go_wp2
    go_ret
    exact ⟨rfl, Keep.alloc (Keep.refl _ _) _⟩
set_option maxHeartbeats 2000000 in
theorem r31new_arg (h : t < 0 ∨ 64 ≤ t ∨ tr < 0 ∨ 255 < tr) : Calls Tryz.prog 51 #[.pointer (some ⟨rb, 0, none⟩), .int .i64 t, .agg #[.int .u64 lo, .int .u64 hi], .int .i64 tr] w fun e w' => e = .returned (.tuple #[.pointer none, .int .i64 2]) ∧ Keep Nil w w' := by
  by_cases h1 : t < 0 ∨ 64 ≤ t
  · have HT := hid (fun w => thread_no t h1 w)
    clear h h1
    go_enter Tryz.func51, Tryz.ntmps51
    go_wp2_with fail
    refine (HT.out _).mono ?_
    rintro e w' ⟨rfl, rfl⟩
    go_wp2
    go_ret2
    exact ⟨rfl, Keep.alloc (Keep.refl _ _) _⟩
  · have HT := hid (fun w => thread_yes t (by omega) (by omega) w)
    by_cases h3 : tr < 0
    · have d3 : decide (tr < 0) = true := decide_eq_true h3
      clear h h1
      go_enter Tryz.func51, Tryz.ntmps51
      go_wp2_with fail
      refine (HT.out _).mono ?_
      rintro e w' ⟨rfl, rfl⟩
      go_wp2
      go_ret2
      exact ⟨rfl, Keep.alloc (Keep.refl _ _) _⟩
    · have d3 : decide (tr < 0) = false := decide_eq_false h3
      have d4 : decide (255 < tr) = true := decide_eq_true (by omega)
      clear h h1
      go_enter Tryz.func51, Tryz.ntmps51
      go_wp2_with fail
      refine (HT.out _).mono ?_
      rintro e w' ⟨rfl, rfl⟩
      go_wp2
      go_ret2
      exact ⟨rfl, Keep.alloc (Keep.refl _ _) _⟩
set_option maxHeartbeats 2000000 in
theorem r31new_bad (t0 : 0 ≤ t) (t1 : t < 64) (r0 : 0 ≤ tr) (r1 : tr ≤ 255) (hs : hi < lo) : Calls Tryz.prog 51 #[.pointer (some ⟨rb, 0, none⟩), .int .i64 t, .agg #[.int .u64 lo, .int .u64 hi], .int .i64 tr] w fun e w' => e = .returned (.tuple #[.pointer none, .int .i64 13]) ∧ Keep Nil w w' := by
  have HT := hid (fun w => thread_yes t t0 t1 w)
  have d3 : decide (tr < 0) = false := decide_eq_false (by omega)
  have d4 : decide (255 < tr) = false := decide_eq_false (by omega)
  go_enter Tryz.func51, Tryz.ntmps51
  go_wp2_with fail
  refine (HT.out _).mono ?_
  rintro e w' ⟨rfl, rfl⟩
  go_wp2_with fail
  refine (r2check_ok lo hi 13 (by rw [if_pos hs])).mono ?_
  rintro e w1 ⟨rfl, hk⟩
  have HK1 := hid (show Keep Nil w w1 from ((Keep.refl Nil w).alloc _).trans hk (fun _ _ h => h))
  clear hk
  go_wp2
  go_ret2
  exact ⟨rfl, HK1.out⟩
def R31NewTo (w : World) (rb : Nat) (s : KS) (e : Ending) (w' : World) : Prop := ∃ o, e = .returned (.tuple #[.pointer (some ⟨o, 0, none⟩), .int .i64 0]) ∧ RKAt w' o rb s ∧ Keep Nil w w' ∧ w.heap.size ≤ o
set_option maxHeartbeats 2000000 in
theorem r31new_ok (t0 : 0 ≤ t) (t1 : t < 64) (r0 : 0 ≤ tr) (r1 : tr ≤ 255) (hs : lo ≤ hi) : Calls Tryz.prog 51 #[.pointer (some ⟨rb, 0, none⟩), .int .i64 t, .agg #[.int .u64 lo, .int .u64 hi], .int .i64 tr] w (R31NewTo w rb (KS.init t lo hi tr)) := by
  have HT := hid (fun w => thread_yes t t0 t1 w)
  have d3 : decide (tr < 0) = false := decide_eq_false (by omega)
  have d4 : decide (255 < tr) = false := decide_eq_false (by omega)
  go_enter Tryz.func51, Tryz.ntmps51
  go_wp2_with fail
  refine (HT.out _).mono ?_
  rintro e w' ⟨rfl, rfl⟩
  go_wp2_with fail
  refine (r2check_ok lo hi 0 (by rw [if_neg (by omega)])).mono ?_
  rintro e w1 ⟨rfl, hk⟩
  have hb1 := hk.at (heap_alloc_new w _) (fun h => h)
  have HK1 := hid (show Keep Nil w w1 from ((Keep.refl Nil w).alloc _).trans hk (fun _ _ h => h))
  have x0 : w1.cell? ⟨w.heap.size, 0, none⟩ = some (.int .u64 lo) := by rw [cell_of hb1]; rfl
  have x1 : w1.cell? ⟨w.heap.size, 1, none⟩ = some (.int .u64 hi) := by rw [cell_of hb1]; rfl
  have sz1 : w.heap.size < w1.heap.size := lt_of_block hb1
  clear hk hb1
  go_wp2
  go_ret2
  exact ⟨w1.heap.size, rfl, heap_alloc_new w1 _, HK1.out.alloc _, by omega⟩
set_option maxHeartbeats 1000000 in
theorem r31next (h : RKAt w o rb s) : Calls Tryz.prog 54 #[.pointer (some ⟨o, 0, none⟩)] w fun e w' => e = .returned (.int .u8 s.next) ∧ w = w' := by
  have c5 : w.cell? ⟨o, 5, none⟩ = some (.int .u8 s.next) := by rw [cell_of h]; rfl
  have z := lt_of_block h
  clear h
  go_enter Tryz.func54, Tryz.ntmps54
  go_wp2
  go_ret
  exact ⟨rfl, rfl⟩
set_option maxRecDepth 100000 in
set_option maxHeartbeats 1000000 in
theorem r31idle (h : RKAt w o rb s) (hn : s.next = 0) : Calls Tryz.prog 55 #[.pointer (some ⟨o, 0, none⟩)] w fun e w' => e = .returned (.tuple #[.int .u8 0, .bool false]) ∧ w = w' := by
  have HN := hid (r31next h)
  rw [hn] at HN
  clear h hn
  go_enter Tryz.func55, Tryz.ntmps55
  go_wp2_with fail
  refine HN.out.mono ?_
  rintro e w' ⟨rfl, rfl⟩
  go_wp2
  go_ret2
  exact ⟨rfl, rfl⟩
set_option maxHeartbeats 2000000 in
theorem r31res (h : RKAt w o rb s) (e f er : Int) (hr : KS.res s = (e, f, er)) : Calls Tryz.prog 56 #[.pointer (some ⟨o, 0, none⟩)] w fun e' w' => e' = .returned (.tuple #[.int .i64 e, .int .i64 f, .int .i64 er]) ∧ Keep Nil w w' := by
  have z := lt_of_block h
  have c5 : w.cell? ⟨o, 5, none⟩ = some (.int .u8 s.next) := by rw [cell_of h]; rfl
  have c7 : w.cell? ⟨o, 7, none⟩ = some (.int .i64 s.free) := by rw [cell_of h]; rfl
  have c10 : w.cell? ⟨o, 10, none⟩ = some (.int .i64 s.fails) := by rw [cell_of h]; rfl
  have c11 : w.cell? ⟨o, 11, none⟩ = some (.int .i64 s.err) := by rw [cell_of h]; rfl
  unfold KS.res at hr
  by_cases h1 : s.next = 0
  · have d1 : (s.next != 0) = false := by simpa using h1
    rw [if_neg (by simpa using h1)] at hr
    by_cases h2 : s.err = 0
    · have d2 : (s.err != 0) = false := by simpa using h2
      rw [if_neg (by simpa using h2)] at hr
      simp only [Prod.mk.injEq] at hr
      obtain ⟨rfl, rfl, rfl⟩ := hr
      clear h h1 h2
      go_enter Tryz.func56, Tryz.ntmps56
      go_wp2
      go_quiet (fail)
      go_wp2
      go_ret3
      exact ⟨rfl, (Keep.refl _ _).drewN nq⟩
    · have d2 : (s.err != 0) = true := by simpa using h2
      rw [if_pos h2] at hr
      simp only [Prod.mk.injEq] at hr
      obtain ⟨rfl, rfl, rfl⟩ := hr
      clear h h1 h2
      go_enter Tryz.func56, Tryz.ntmps56
      go_wp2
      go_quiet (fail)
      go_wp2
      go_ret3
      exact ⟨rfl, (Keep.refl _ _).drewN nq⟩
  · have d1 : (s.next != 0) = true := by simpa using h1
    rw [if_pos h1] at hr
    simp only [Prod.mk.injEq] at hr
    obtain ⟨rfl, rfl, rfl⟩ := hr
    clear h h1
    go_enter Tryz.func56, Tryz.ntmps56
    go_wp2
    go_ret3
    exact ⟨rfl, Keep.refl _ _⟩
/-- The locking alone is written. -/
def RMine (w : World) (o rb : Nat) (s' : KS) (e : Ending) (w' : World) : Prop := e = .returned (.tuple #[]) ∧ RKAt w' o rb s' ∧ Keep (fun k => k = o) w w'
theorem kone {w : World} {o i : Nat} {v : Value} : Keep (fun k => k = o) w (w.setCell ⟨o, i, none⟩ v) := (Keep.refl (fun k => k = o) w).setCell (p := ⟨o, i, none⟩) (.inl rfl) _
set_option maxHeartbeats 2000000 in
theorem r31conflict (h : RKAt w o rb s) (hf : 0 ≤ s.fails ∧ s.fails < 1000000) : Calls Tryz.prog 103 #[.pointer (some ⟨o, 0, none⟩)] w (RMine w o rb (KS.nx s.clash)) := by
  have H := hid h
  have z := lt_of_block h
  have f9 : w.frozen? ⟨o, 9, none⟩ = false := free_of h 9
  have f10 : w.frozen? ⟨o, 10, none⟩ = false := free_of h 10
  have f5 : w.frozen? ⟨o, 5, none⟩ = false := free_of h 5
  have c9 : w.cell? ⟨o, 9, none⟩ = some (.bool s.conf) := by rw [cell_of h]; rfl
  have c10 : w.cell? ⟨o, 10, none⟩ = some (.int .i64 s.fails) := by rw [cell_of h]; rfl
  have c5 : w.cell? ⟨o, 5, none⟩ = some (.int .u8 s.next) := by rw [cell_of h]; rfl
  have wf : IntKind.i64.wrap (s.fails + 1) = s.fails + 1 := by rw [IntKind.wrap_i64]; omega
  clear h hf
  go_enter Tryz.func103, Tryz.ntmps103
  go_wp2
  refine bodyPost_ret (results_none rfl _ _ _) rfl ?_
  exact ⟨rfl, set_same (set_same (set_same H.out _) _) _, (kone.trans kone (fun _ _ h => h)).trans kone (fun _ _ h => h)⟩
set_option maxHeartbeats 2000000 in
theorem r31tried (h : RKAt w o rb s) : Calls Tryz.prog 100 #[.pointer (some ⟨o, 0, none⟩)] w (RMine w o rb (KS.nx s.again)) := by
  have H := hid h
  have z := lt_of_block h
  have f11 : w.frozen? ⟨o, 11, none⟩ = false := free_of h 11
  have f5 : w.frozen? ⟨o, 5, none⟩ = false := free_of h 5
  have c10 : w.cell? ⟨o, 10, none⟩ = some (.int .i64 s.fails) := by rw [cell_of h]; rfl
  have c2 : w.cell? ⟨o, 2, none⟩ = some (.int .i64 s.tries) := by rw [cell_of h]; rfl
  have c5 : w.cell? ⟨o, 5, none⟩ = some (.int .u8 s.next) := by rw [cell_of h]; rfl
  have c11 : w.cell? ⟨o, 11, none⟩ = some (.int .i64 s.err) := by rw [cell_of h]; rfl
  clear h
  by_cases h1 : s.fails = s.tries
  · have d1 : (s.fails == s.tries) = true := beq_iff_eq.2 h1
    have HE := hid (show KS.nx s.again = { s with next := 0, err := 11 } from by unfold KS.again KS.nx; rw [if_pos h1])
    clear h1
    go_enter Tryz.func100, Tryz.ntmps100
    go_wp2
    go_quiet (fail)
    go_wp2
    refine bodyPost_ret (results_none rfl _ _ _) rfl ?_
    rw [HE.out]
    have hw := ((Keep.refl Nil _).drewN nq).at (set_same H.out (i := 5) (.int .u8 2)) (fun h => h)
    exact ⟨rfl, set_same (set_same hw _) _, ((kone.drewN nq).trans kone (fun _ _ h => h)).trans kone (fun _ _ h => h)⟩
  · have d1 : (s.fails == s.tries) = false := beq_eq_false_iff_ne.2 h1
    have HE := hid (show KS.nx s.again = { s with next := 2 } from by unfold KS.again KS.nx; rw [if_neg h1])
    clear h1
    go_enter Tryz.func100, Tryz.ntmps100
    go_wp2
    go_quiet (fail)
    go_wp2
    refine bodyPost_ret (results_none rfl _ _ _) rfl ?_
    rw [HE.out]
    exact ⟨rfl, ((Keep.refl Nil _).drewN nq).at (set_same H.out (i := 5) (.int .u8 2)) (fun h => h), kone.drewN nq⟩
set_option maxHeartbeats 4000000 in
theorem r31entry (h : RKAt w o rb s) (hrb : w.cell? ⟨rb, 0, none⟩ = some (.pointer (some ⟨l, 0, none⟩))) (hl : w.cell? ⟨l, 13, none⟩ = some (.int .i64 c.lk)) (n1 : rb ≠ o) (n2 : l ≠ o) (z1 : rb < w.heap.size) (z2 : l < w.heap.size) (e0 : 0 ≤ s.entry) (e1 : s.entry ≤ 16) (hf : 0 ≤ s.fails ∧ s.fails < 1000000) : Calls Tryz.prog 102 #[.pointer (some ⟨o, 0, none⟩)] w (RMine w o rb (KS.nx (s.follow c.lk))) := by
  have H := hid h
  have z := lt_of_block h
  have f5 : w.frozen? ⟨o, 5, none⟩ = false := free_of h 5
  have f6 : w.frozen? ⟨o, 6, none⟩ = false := free_of h 6
  have c0 : w.cell? ⟨o, 0, none⟩ = some (.pointer (some ⟨rb, 0, none⟩)) := by rw [cell_of h]; rfl
  have c5 : w.cell? ⟨o, 5, none⟩ = some (.int .u8 s.next) := by rw [cell_of h]; rfl
  have c6 : w.cell? ⟨o, 6, none⟩ = some (.int .i64 s.entry) := by rw [cell_of h]; rfl
  have c7 : w.cell? ⟨o, 7, none⟩ = some (.int .i64 s.free) := by rw [cell_of h]; rfl
  have we : IntKind.i64.wrap (s.entry + 1) = s.entry + 1 := by rw [IntKind.wrap_i64]; omega
  have HFL := hid hf
  clear h e0 e1 hf
  by_cases hlt : s.entry + 1 < (c.lk : Int)
  · have dl : decide (s.entry + 1 < (c.lk : Int)) = true := decide_eq_true hlt
    have HF2 := hid (show KS.nx (s.follow c.lk) = { s with entry := s.entry + 1, next := 37 } from by unfold KS.follow KS.nx; rw [if_pos hlt])
    clear hlt
    go_enter Tryz.func102, Tryz.ntmps102
    go_wp2
    go_quiet (fail)
    go_wp2
    refine bodyPost_ret (results_none rfl _ _ _) rfl ?_
    rw [HF2.out]
    have hw := set_same (set_same H.out (i := 6) (.int .i64 (s.entry + 1))) (i := 5) (.int .u8 37)
    exact ⟨rfl, ((Keep.refl Nil _).drewN nq).at hw (fun h => h), (kone.trans kone (fun _ _ h => h)).drewN nq⟩
  · have dl : decide (s.entry + 1 < (c.lk : Int)) = false := decide_eq_false hlt
    by_cases hfr : s.free < 0
    · have df : decide (s.free < 0) = true := decide_eq_true hfr
      have HF2 := hid (show KS.nx (s.follow c.lk) = KS.nx (KS.clash { s with entry := s.entry + 1, next := 37 }) from by unfold KS.follow KS.nx KS.clash; rw [if_neg hlt, if_pos hfr])
      clear hlt hfr
      go_enter Tryz.func102, Tryz.ntmps102
      go_wp2
      go_quiet (fail)
      have hw : RKAt (((w.setCell ⟨o, 6, none⟩ (.int .i64 (s.entry + 1))).setCell ⟨o, 5, none⟩ (.int .u8 37)).drewN nq) o rb { s with entry := s.entry + 1, next := 37 } := ((Keep.refl Nil _).drewN nq).at (set_same (set_same H.out (i := 6) (.int .i64 (s.entry + 1))) (i := 5) (.int .u8 37)) (fun h => h)
      go_wp2_with fail
      refine (r31conflict hw HFL.out).mono ?_
      rintro e w2 ⟨rfl, hr, hk⟩
      have HR := hid hr
      have HK := hid (show Keep (fun k => k = o) w w2 from ((kone.trans kone (fun _ _ h => h)).drewN nq).trans hk (fun _ _ h => h))
      clear hr hk hw
      go_wp2
      refine bodyPost_ret (results_none rfl _ _ _) rfl ?_
      rw [HF2.out]
      exact ⟨rfl, HR.out, HK.out⟩
    · have df : decide (s.free < 0) = false := decide_eq_false hfr
      have HF2 := hid (show KS.nx (s.follow c.lk) = { s with entry := s.entry + 1, next := 40 } from by unfold KS.follow KS.nx; rw [if_neg hlt, if_neg hfr])
      clear hlt hfr
      go_enter Tryz.func102, Tryz.ntmps102
      go_wp2
      go_quiet (fail)
      go_wp2
      refine bodyPost_ret (results_none rfl _ _ _) rfl ?_
      rw [HF2.out]
      have hw : RKAt (((w.setCell ⟨o, 6, none⟩ (.int .i64 (s.entry + 1))).setCell ⟨o, 5, none⟩ (.int .u8 37)).drewN nq) o rb { s with entry := s.entry + 1, next := 37 } := ((Keep.refl Nil _).drewN nq).at (set_same (set_same H.out (i := 6) (.int .i64 (s.entry + 1))) (i := 5) (.int .u8 37)) (fun h => h)
      exact ⟨rfl, set_same hw _, ((kone.trans kone (fun _ _ h => h)).drewN nq).trans kone (fun _ _ h => h)⟩
end
end Go.Proofs.YtmafdjhjmnghcaaGreat
