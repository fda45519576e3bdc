/- ranges: a store and a locking that the walk has made; law31.lock; lists of ranges held against one another. -/
import Derived.Test.YtmafdjhjmnghcaaGreatRngOps
set_option linter.unusedVariables false
set_option linter.unusedSimpArgs false
namespace Go.Lf
/-- A locking alone, to its end: the number of steps, the state and the words then. -/
def KS.runs (lk : Int) (M T : Nat) : Nat → KS → List Int → Option (Nat × KS × List Int)
  | 0, s, ws => if s.next = 0 then some (0, s, ws) else none
  | f + 1, s, ws => if s.next = 0 then some (0, s, ws) else (KS.runs lk M T f (s.step lk ((ws[s.at M T]?).getD 0)) (s.ws M T ws ((ws[s.at M T]?).getD 0))).map fun r => (r.1 + 1, r.2)
theorem KS.runs_end {lk : Int} {M T f : Nat} {s s' : KS} {ws ws' : List Int} {n : Nat} (h : s.runs lk M T f ws = some (n, s', ws')) (hn : s.next = 0) : n = 0 ∧ s' = s ∧ ws' = ws := by
  cases f with
  | zero => rw [KS.runs, if_pos hn] at h; simp only [Option.some.injEq, Prod.mk.injEq] at h; exact ⟨h.1.symm, h.2.1.symm, h.2.2.symm⟩
  | succ f => rw [KS.runs, if_pos hn] at h; simp only [Option.some.injEq, Prod.mk.injEq] at h; exact ⟨h.1.symm, h.2.1.symm, h.2.2.symm⟩
theorem KS.runs_more {lk : Int} {M T f : Nat} {s s' : KS} {ws ws' : List Int} {n : Nat} (h : s.runs lk M T f ws = some (n, s', ws')) (hn : s.next ≠ 0) : ∃ f' m, f = f' + 1 ∧ n = m + 1 ∧ (s.step lk ((ws[s.at M T]?).getD 0)).runs lk M T f' (s.ws M T ws ((ws[s.at M T]?).getD 0)) = some (m, s', ws') := by
  cases f with
  | zero => rw [KS.runs, if_neg hn] at h; cases h
  | succ f =>
    rw [KS.runs, if_neg hn] at h
    obtain ⟨r, h1, h2⟩ := Option.map_eq_some_iff.1 h
    simp only [Prod.mk.injEq] at h2
    exact ⟨f, r.1, rfl, h2.1.symm, by rw [h1, ← h2.2]⟩
theorem KS.step_fails {lk : Int} {s : KS} {x : Int} : (s.step lk x).fails ≤ s.fails + 1 ∧ s.fails ≤ (s.step lk x).fails := by
  unfold KS.step KS.act KS.follow KS.again KS.clash
  repeat' split
  all_goals simp only
  all_goals omega
theorem KS.at_lt {c : Cfg} {s : KS} (hg : s.good c.lk) : s.at c.master c.locks < c.words := by
  have h1 := c.le1; have h2 := c.le2; have h3 := c.le3
  have hq1 : c.locks + c.lk * 3 = c.descs := rfl
  have hq2 : c.descs + c.lk = c.pools := rfl
  have hq0 : c.master + 1 = c.locks := rfl
  have hfr := hg.fr
  unfold KS.at
  rcases hg.nx with e | e | e | e | e | e | e | e
  · rw [if_pos e]; omega
  · have := hg.en (by omega); rw [if_neg (by omega), if_pos e]; omega
  · have := hg.en (by omega); rw [if_neg (by omega), if_neg (by omega), if_pos e]; omega
  · have := hg.en (by omega); rw [if_neg (by omega), if_neg (by omega), if_neg (by omega), if_pos e]; omega
  · have := hg.fs (by omega); rw [if_neg (by omega), if_neg (by omega), if_neg (by omega), if_neg (by omega), if_pos e]; omega
  · have := hg.fs (by omega); rw [if_neg (by omega), if_neg (by omega), if_neg (by omega), if_neg (by omega), if_neg (by omega), if_pos e]; omega
  · have := hg.fs (by omega); rw [if_neg (by omega), if_neg (by omega), if_neg (by omega), if_neg (by omega), if_neg (by omega), if_neg (by omega), if_pos e]; omega
  · rw [if_neg (by omega), if_neg (by omega), if_neg (by omega), if_neg (by omega), if_neg (by omega), if_neg (by omega), if_neg (by omega)]; omega
theorem KS.ws_ok {c : Cfg} {s : KS} {ws : List Int} (h : WdOk c ws) (hg : s.good c.lk) (x : Int) : WdOk c (s.ws c.master c.locks ws x) := by
  unfold KS.ws
  cases hp : s.put x with
  | none => exact h
  | some v =>
    have hv : 0 ≤ v ∧ v < 18446744073709551616 := by
      unfold KS.put at hp
      have := hg.t0; have := hg.l0; have := hg.h0
      split at hp
      · split at hp
        · cases hp; omega
        · cases hp
      · split at hp
        · cases hp; omega
        · split at hp
          · cases hp; omega
          · split at hp
            · cases hp; omega
            · split at hp
              · cases hp; omega
              · cases hp
    exact h.set _ hv.1 hv.2
theorem KS.init_good {lk t lo hi tr : Int} (h1 : 1 ≤ lk) (t0 : 0 ≤ t) (t1 : t < 64) (l0 : 0 ≤ lo ∧ lo < 18446744073709551616) (h0 : 0 ≤ hi ∧ hi < 18446744073709551616) : (KS.init t lo hi tr).good lk :=
  ⟨.inl rfl, fun e => (by rcases e with e | e | e <;> cases e), ⟨by show (-1 : Int) ≤ 0; omega, by show (0 : Int) < lk; omega⟩, fun e => (by rcases e with e | e | e <;> cases e), ⟨by show (0 : Int) ≤ 0; omega, by show (0 : Int) < _; omega⟩, ⟨t0, t1⟩, l0, h0⟩
end Go.Lf
namespace Go.Proofs.YtmafdjhjmnghcaaGreat
open Go.RowKit Go.Lf
structure KW (w wr : World) (c : Cfg) (b mb : Nat) (ws : List Int) (log : List Acc) (l sb m : Nat) (s : KS) : Prop where
  ex : ∃ A, (StoreL c b mb).lie wr A (ws, log) ∧ (∀ k, A k → w.heap.size ≤ k) ∧ ¬ A l ∧ ¬ A sb ∧ ¬ A m
  lk : LkAt wr l sb m b s
  ge : w.heap.size ≤ l
  own : Keep Nil w wr
section
variable {w wr w' : World} {c : Cfg} {b mb l sb m : Nat} {ws ws' : List Int} {log log' : List Acc} {s s' : KS}
theorem KW.sw (h : KW w wr c b mb ws log l sb m s) : SW w wr c b mb ws log := by
  obtain ⟨⟨A, h1, h2, -⟩, -, -, h6⟩ := h
  exact ⟨⟨A, h1, h2⟩, h6⟩
theorem KW.quiet (h : KW w wr c b mb ws log l sb m s) (hk : Keep Nil wr w') : KW w w' c b mb ws log l sb m s := by
  obtain ⟨⟨A, h1, h2, h3⟩, h4, h5, h6⟩ := h
  exact ⟨⟨A, (StoreL c b mb).keep h1 hk (fun _ _ h => h), h2, h3⟩, h4.quiet hk, h5, h6.trans hk (fun _ _ h => h)⟩
def KWNewTo (w : World) (c : Cfg) (b mb : Nat) (ws : List Int) (log : List Acc) (s : KS) (e : Ending) (w' : World) : Prop :=
  ∃ l sb m, e = .returned (.tuple #[.pointer (some ⟨l, 0, none⟩), .int .i64 0]) ∧ KW w w' c b mb ws log l sb m s
theorem kw_new (h : SW w wr c b mb ws log) (t lo hi tr : Int) (t0 : 0 ≤ t) (t1 : t < 64) (r0 : 0 ≤ tr) (r1 : tr ≤ 255) (hs : lo ≤ hi) :
    Calls Tryz.prog 12 #[.pointer (some ⟨b, 0, none⟩), .int .i64 t, .agg #[.int .u64 lo, .int .u64 hi], .int .i64 tr] wr (KWNewTo w c b mb ws log (KS.init t lo hi tr)) := by
  obtain ⟨⟨A, h1, h2⟩, h3⟩ := h
  refine (knew_ok t lo hi tr t0 t1 r0 r1 hs).mono ?_
  rintro e w' ⟨l, sb, m, rfl, h4, h5, h6, h7, h8⟩
  have hlt : ∀ k, A k → k < wr.heap.size := fun k e => (StoreL c b mb).lt h1 k e
  exact ⟨l, sb, m, rfl, ⟨A, (StoreL c b mb).keep h1 h5 (fun _ _ h => h), h2, fun e => by have := hlt _ e; omega, fun e => by have := hlt _ e; omega, fun e => by have := hlt _ e; omega⟩, h4, by have := h3.size; omega, h3.trans h5 (fun _ _ h => h)⟩
def KWStepTo (w : World) (c : Cfg) (b mb : Nat) (ws : List Int) (log : List Acc) (l sb m : Nat) (pc nx : Int) (s : KS) (e : Ending) (w' : World) : Prop :=
  e = .returned (.tuple #[.int .u8 pc, .bool (nx == 0)]) ∧ KW w w' c b mb ws log l sb m s
theorem kw_step (h : KW w wr c b mb ws log l sb m s) (hok : c.ok) (hw : WdOk c ws) (hg : s.good c.lk) (hl : log.length + 1 < 1000000000) :
    Calls Tryz.prog 13 #[.pointer (some ⟨l, 0, none⟩)] wr (KWStepTo w c b mb (s.ws c.master c.locks ws ((ws[s.at c.master c.locks]?).getD 0)) (log ++ [s.acc c.master c.locks ((ws[s.at c.master c.locks]?).getD 0)]) l sb m s.next (s.step c.lk ((ws[s.at c.master c.locks]?).getD 0)).next (s.step c.lk ((ws[s.at c.master c.locks]?).getD 0))) := by
  obtain ⟨⟨A, ⟨L, F, G, hsp⟩, h2, h3, h4, h5⟩, h6, h7, h8⟩ := h
  obtain ⟨x, hx, -, -⟩ := hw.at (KS.at_lt hg)
  rw [hx, Option.getD_some]
  have hin : KIn wr A c b mb L l sb m F G ws log s := ⟨hsp, hok, h6, h3, h4, h5, hw, hg.t0.1, hg.t0.2, by omega⟩
  have z1 : l < wr.heap.size := lt_of_block h6.head
  have z2 : sb < wr.heap.size := lt_of_block h6.span
  have z3 : m < wr.heap.size := by obtain ⟨c1, c2, c3, c4, c5, c6, c7, c8, hm⟩ := h6.map; exact hm.lt
  refine (kstep_ok hin hg hl x hx).mono ?_
  rintro e w' ⟨rfl, A', q1, q2, q3, q4⟩
  have q4' : ∀ k, A' k → A k ∨ wr.heap.size ≤ k := q4
  exact ⟨rfl, ⟨A', q1, fun k e => (q4' k e).elim (h2 k) (fun e => by have := h8.size; omega), fun e => (q4' l e).elim h3 (fun e => by omega), fun e => (q4' sb e).elim h4 (fun e => by omega), fun e => (q4' m e).elim h5 (fun e => by omega)⟩, q2, h7, h8.trans q3 (fun k hlt e => by rcases e with e | e; have := h2 k e; omega; omega)⟩
/-- law31.lock has run. -/
def LockTo (w : World) (c : Cfg) (b mb : Nat) (ws' : List Int) (e n er : Int) (k : Nat) (e' : Ending) (w' : World) : Prop :=
  e' = .returned (.tuple #[.int .i64 e, .int .i64 n, .int .i64 er]) ∧ ∃ log' : List Acc, log'.length ≤ k ∧ SW w w' c b mb ws' log' ∧ WdOk c ws'
set_option maxRecDepth 100000 in
set_option maxHeartbeats 8000000 in
theorem lock_ok (h : SW w wr c b mb ws log) (hok : c.ok) (hw : WdOk c ws) (t lo hi tr : Int) (t0 : 0 ≤ t) (t1 : t < 64) (r0 : 0 ≤ tr) (r1 : tr ≤ 255) (hs : lo ≤ hi) (l0 : 0 ≤ lo ∧ lo < 18446744073709551616) (h0 : 0 ≤ hi ∧ hi < 18446744073709551616)
    {f n : Nat} {s' : KS} {ws' : List Int} (hf : n ≤ 2999) (hr : (KS.init t lo hi tr).runs c.lk c.master c.locks f ws = some (n, s', ws')) (hl : log.length < 900000000) (e fl er : Int) (hres : KS.res s' = (e, fl, er)) (nn : Int) (hnn : nn = n) :
    Calls Tryz.prog 20 #[.pointer (some ⟨b, 0, none⟩), .int .i64 t, .agg #[.int .u64 lo, .int .u64 hi], .int .i64 tr] wr (LockTo w c b mb ws' e nn er (log.length + n)) := by
  subst hnn
  have H := hid (h.quiet ((Keep.refl Nil wr).alloc (.cells #[.int .u64 lo, .int .u64 hi] 28)))
  have HC := hid hok
  have HW := hid hw
  have HR := hid hr
  have HL := hid hl
  have HRES := hid hres
  have HB := hid (And.intro l0 h0)
  have HN := hid hf
  clear h hok hw hr hl hres l0 h0 hf
  go_enter Tryz.func20, Tryz.ntmps20
  go_wp2_with fail
  refine (kw_new H.out t lo hi tr t0 t1 r0 r1 hs).mono ?_
  rintro e' w1 ⟨l, sb, m, rfl, hkw⟩
  have HKW := hid hkw
  clear hkw
  go_wp2
  go_loopw [9] (fun x wz => ∃ (j f' k : Nat) (sj : KS) (wsj : List Int) (logj : List Acc), x = .int .i64 j ∧ j + k = n ∧ KW w wz c b mb wsj logj l sb m sj ∧ WdOk c wsj ∧ sj.runs c.lk c.master c.locks f' wsj = some (k, s', ws') ∧ logj.length = log.length + j ∧ (sj.next ≠ 0 → sj.good c.lk) ∧ 0 ≤ sj.fails ∧ sj.fails ≤ j) (fun x _ => n + 1 - (intOf x).toNat)
  case atStart => exact ⟨0, f, n, _, _, _, rfl, by omega, HKW.out, HW.out, HR.out, rfl, fun _ => KS.init_good (by have := HC.out.lk1; omega) t0 t1 HB.out.1 HB.out.2, Int.le_refl 0, Int.le_refl 0⟩
  case round =>
    obtain ⟨j, f', k, sj, wsj, logj, rfl, hjk, hkw, hwd, hrun, hlog, hgd, hfl0, hfl⟩ := hrel
    have HK := hid hkw
    have HWD := hid hwd
    have HRUN := hid hrun
    have HLG := hid hlog
    have HJK := hid hjk
    have HFL := hid (And.intro hfl0 hfl)
    have hj3 : (j : Int) < 3000 := by have := HN.out; omega
    have dj : decide ((j : Int) < 3000) = true := decide_eq_true hj3
    have ej : decide (j < 3000) = true := decide_eq_true (by omega)
    have wj1 : IntKind.i64.wrap ((j : Int) + 1) = (j : Int) + 1 := by rw [IntKind.wrap_i64]; omega
    have nj : j < 3000 := by omega
    clear hkw hwd hrun hlog hjk hfl0 hfl HKW
    by_cases hz : sj.next = 0
    · have dz : (sj.next != 0) = false := by rw [hz]; rfl
      obtain ⟨q1, q2, q3⟩ := KS.runs_end HRUN.out hz
      have hjn : j = n := by have := HJK.out; omega
      have HQ := hid (And.intro q2 q3)
      have HJN := hid hjn
      clear hz hgd q1 q2 q3 hjn
      go_wp2_with fail
      refine (knext_ok HK.out.lk).mono ?_
      rintro e' w2 ⟨rfl, rfl⟩
      go_wp2_with fail
      refine (kres_ok HK.out.lk e fl er (by rw [← HQ.out.1]; exact HRES.out)).mono ?_
      rintro e' w3 ⟨rfl, hk⟩
      have HK3 := hid (HK.out.quiet hk)
      clear hk
      go_wp2
      go_ret3
      refine ⟨by rw [HJN.out]; rfl, logj, by have := HLG.out; have := HJN.out; omega, by rw [HQ.out.2]; exact HK3.out.sw, by rw [HQ.out.2]; exact HWD.out⟩
    · have dz : (sj.next != 0) = true := by simpa using hz
      have hg := hgd hz
      obtain ⟨f2, k2, q1, q2, q3⟩ := KS.runs_more HRUN.out hz
      have hst := kw_step HK.out HC.out HWD.out hg (by have := HLG.out; have := HL.out; omega)
      have hgn := fun h => KS.step_good (x := (wsj[sj.at c.master c.locks]?).getD 0) hg (by have := HFL.out; have := HJK.out; have := HN.out; omega) (by have := HC.out.lk1; omega) h
      have hwn := KS.ws_ok HWD.out hg ((wsj[sj.at c.master c.locks]?).getD 0)
      have hfn := KS.step_fails (lk := c.lk) (s := sj) (x := (wsj[sj.at c.master c.locks]?).getD 0)
      obtain ⟨s2, hs2⟩ : ∃ s2, s2 = sj.step c.lk ((wsj[sj.at c.master c.locks]?).getD 0) := ⟨_, rfl⟩
      obtain ⟨ws2, hws2⟩ : ∃ ws2, ws2 = sj.ws c.master c.locks wsj ((wsj[sj.at c.master c.locks]?).getD 0) := ⟨_, rfl⟩
      rw [← hs2, ← hws2] at hst q3
      rw [← hs2] at hgn hfn
      rw [← hws2] at hwn
      have HST := hid hst
      have HQ3 := hid q3
      have HGN := hid hgn
      have HWN := hid hwn
      have HFN := hid hfn
      have HQ2 := hid q2
      obtain ⟨q, hq⟩ : ∃ q, q = (s2.next == 0) := ⟨_, rfl⟩
      have HQ := hid hq
      have bq : (q != q) = false := by cases q <;> rfl
      have bn : (sj.next != sj.next) = false := by simp
      clear hz hg hgd hst hgn hwn hfn hs2 hws2 q1 q2 q3 hq
      go_wp2_with fail
      refine (knext_ok HK.out.lk).mono ?_
      rintro e' w2 ⟨rfl, rfl⟩
      go_wp2_with fail
      refine (knext_ok HK.out.lk).mono ?_
      rintro e' w2 ⟨rfl, rfl⟩
      go_wp2_with fail
      refine HST.out.mono ?_
      rintro e' w3 ⟨rfl, hkw⟩
      rw [← HQ.out]
      have HK2 := hid hkw
      clear hkw HST
      go_wp2_with fail
      refine (knext_ok HK2.out.lk).mono ?_
      rintro e' w4 ⟨rfl, rfl⟩
      have HQs := HQ.out
      go_wp2_with fail
      go_roundw
      case rel => exact ⟨j + 1, f2, k2, s2, ws2, _, by go_num, by have := HJK.out; have := HQ2.out; omega, HK2.out, HWN.out, HQ3.out, by simp only [List.length_append, List.length_singleton]; have := HLG.out; omega, HGN.out, by have := HFN.out; have := HFL.out; omega, by have := HFN.out; have := HFL.out; omega⟩
      case measure => have := HJK.out; have := HQ2.out; simp [intOf]; omega
theorem eqS_at {xs : List (Int × Int)} {k : Nat} {x : Int × Int} (hx : xs[k]? = some x) {j : Nat} (hj : j < 2) : (spnCells xs)[k * 2 + j]? = [Value.int .u64 x.1, Value.int .u64 x.2][j]? := flatn_at (fun x : Int × Int => [Value.int .u64 x.1, Value.int .u64 x.2]) 2 (fun _ => rfl) xs hx hj
set_option maxHeartbeats 2000000 in
theorem eqS_yes (va vb : Value) (xs : List (Int × Int)) (w : World) (h1 : Rd w 2 va xs.length (spnCells xs)) (h2 : Rd w 2 vb xs.length (spnCells xs)) (hm : xs.length ≤ 1000000) :
    Calls Tryz.prog 21 #[va, vb] w fun e w' => e = .returned (.bool true) ∧ Keep Nil w w' := by
  by_cases h0 : xs.length = 0
  · rw [h0] at h1 h2
    obtain ⟨a, c, rfl, -, -⟩ := h1
    obtain ⟨a', c', rfl, -, -⟩ := h2
    clear h0
    go_enter Tryz.func21, Tryz.ntmps21
    go_wp2
    go_rounds 1
    go_ret
    exact ⟨rfl, Keep.refl _ _⟩
  · obtain ⟨b, off, c, rfl, hc⟩ := Rd.cell h1 (by omega)
    obtain ⟨b', off', c', rfl, hc'⟩ := Rd.cell h2 (by omega)
    have HC := hid hc
    have HC' := hid hc'
    clear hc hc' h1 h2 h0
    go_enter Tryz.func21, Tryz.ntmps21
    go_wp2
    go_loopw [5] (fun i wr => ∃ k : Nat, k ≤ xs.length ∧ i = .int .i64 k ∧ Keep Nil w wr) (fun i _ => xs.length - (intOf i).toNat)
    case atStart => exact ⟨0, Nat.zero_le _, rfl, Keep.refl _ _⟩
    case round =>
      obtain ⟨k, hk, rfl, hkk⟩ := hrel
      have HKK := hid hkk
      clear hkk
      by_cases hlt : k < xs.length
      · obtain ⟨x, hx⟩ : ∃ x, xs[k]? = some x := ⟨_, List.getElem?_eq_getElem hlt⟩
        have c0 : wr.cell? ⟨b, off + k * 2, none⟩ = some (.int .u64 x.1) := HKK.out.cell (HC.out (k * 2) _ (by have := eqS_at hx (j := 0) (by decide); simpa using this)) (fun h => h)
        have c1 : wr.cell? ⟨b, off + k * 2 + 1, none⟩ = some (.int .u64 x.2) := by rw [Nat.add_assoc]; exact HKK.out.cell (HC.out (k * 2 + 1) _ (by have := eqS_at hx (j := 1) (by decide); simpa using this)) (fun h => h)
        have d0 : wr.cell? ⟨b', off' + k * 2, none⟩ = some (.int .u64 x.1) := HKK.out.cell (HC'.out (k * 2) _ (by have := eqS_at hx (j := 0) (by decide); simpa using this)) (fun h => h)
        have d1 : wr.cell? ⟨b', off' + k * 2 + 1, none⟩ = some (.int .u64 x.2) := by rw [Nat.add_assoc]; exact HKK.out.cell (HC'.out (k * 2 + 1) _ (by have := eqS_at hx (j := 1) (by decide); simpa using this)) (fun h => h)
        have k0 : (0 : Int) ≤ (k : Int) := by omega
        have k1 : (k : Int) < (xs.length : Int) := by omega
        have wk : IntKind.i64.wrap ((k : Int) + 1) = (k : Int) + 1 := by rw [IntKind.wrap_i64]; omega
        clear hx
        go_wp2
        go_quiet (fail)
        go_wp2
        go_roundw
        case rel => exact ⟨k + 1, by omega, by go_num, HKK.out.drewN _⟩
        case measure => simp [intOf]; omega
      · obtain rfl : k = xs.length := by omega
        go_wp2
        go_ret
        exact ⟨rfl, HKK.out⟩
end
end Go.Proofs.YtmafdjhjmnghcaaGreat
