/- ranges: a store and a locking beside blocks of others; law31.lock so. -/
import Derived.Test.YtmafdjhjmnghcaaGreatRngLaw
set_option linter.unusedVariables false
set_option linter.unusedSimpArgs false
namespace Go.Proofs.YtmafdjhjmnghcaaGreat
open Go.RowKit Go.Lf
structure SWO (O : Nat → Prop) (w wr : World) (c : Cfg) (b mb : Nat) (ws : List Int) (log : List Acc) : Prop where
  ex : ∃ A, (StoreL c b mb).lie wr A (ws, log) ∧ (∀ k, A k → w.heap.size ≤ k) ∧ ∀ k, O k → ¬ A k ∧ k < wr.heap.size
  own : Keep Nil w wr
structure KWO (O : Nat → Prop) (w wr : World) (c : Cfg) (b mb : Nat) (ws : List Int) (log : List Acc) (l sb m : Nat) (s : KS) : Prop where
  ex : ∃ A, (StoreL c b mb).lie wr A (ws, log) ∧ (∀ k, A k → w.heap.size ≤ k) ∧ ¬ A l ∧ ¬ A sb ∧ ¬ A m ∧ ∀ k, O k → ¬ A k ∧ k ≠ l ∧ k < wr.heap.size
  lk : LkAt wr l sb m b s
  ge : w.heap.size ≤ l
  own : Keep Nil w wr
section
variable {w wr w' : World} {O : Nat → Prop} {c : Cfg} {b mb l sb m : Nat} {ws ws' : List Int} {log log' : List Acc} {s s' : KS}
theorem SWO.sw (h : SWO O w wr c b mb ws log) : SW w wr c b mb ws log := by
  obtain ⟨⟨A, h1, h2, -⟩, h6⟩ := h
  exact ⟨⟨A, h1, h2⟩, h6⟩
theorem SWO.quiet (h : SWO O w wr c b mb ws log) (hk : Keep Nil wr w') : SWO O w w' c b mb ws log := by
  obtain ⟨⟨A, h1, h2, h3⟩, h6⟩ := h
  exact ⟨⟨A, (StoreL c b mb).keep h1 hk (fun _ _ h => h), h2, fun k e => ⟨(h3 k e).1, by have := (h3 k e).2; have := hk.size; omega⟩⟩, h6.trans hk (fun _ _ h => h)⟩
/-- Others do something; more blocks are theirs. -/
theorem SWO.other (h : SWO O w wr c b mb ws log) {S O' : Nat → Prop} (hk : Keep S wr w') (hS : ∀ k, S k → O k ∨ wr.heap.size ≤ k) (hO : ∀ k, O' k → O k ∨ (wr.heap.size ≤ k ∧ k < w'.heap.size)) (hb : ∀ k, S k → w.heap.size ≤ k) : SWO O' w w' c b mb ws log := by
  obtain ⟨⟨A, h1, h2, h3⟩, h6⟩ := h
  have hlt : ∀ k, A k → k < wr.heap.size := (StoreL c b mb).lt h1
  refine ⟨⟨A, (StoreL c b mb).keep h1 hk (fun k hk hs => (hS k hs).elim (fun e => (h3 k e).1 hk) (fun e => by have := hlt k hk; omega)), h2, fun k e => ?_⟩, h6.trans hk (fun k hl e => by have := hb k e; omega)⟩
  rcases hO k e with e | e
  · exact ⟨(h3 k e).1, by have := (h3 k e).2; have := hk.size; omega⟩
  · exact ⟨fun e2 => by have := hlt k e2; omega, e.2⟩
/-- The store turns. -/
theorem SWO.turn {A : Nat → Prop} (hA : ∀ k, A k → w.heap.size ≤ k) (hO : ∀ k, O k → ¬ A k ∧ k < wr.heap.size) (hown : Keep Nil w wr) (h : (StoreL c b mb).To wr A (ws', log') w') : SWO O w w' c b mb ws' log' ∧ Keep (fun k => ¬ O k) wr w' := by
  obtain ⟨A', h1, h2, h3⟩ := h
  have h3' : ∀ k, A' k → A k ∨ wr.heap.size ≤ k := h3
  exact ⟨⟨⟨A', h1, fun k e => (h3' k e).elim (hA k) (fun e => by have := hown.size; omega), fun k e => ⟨fun e2 => (h3' k e2).elim (hO k e).1 (fun e2 => by have := (hO k e).2; omega), by have := (hO k e).2; have := h2.size; omega⟩⟩, hown.trans h2 (fun k hl e => by have := hA k e; omega)⟩, h2.mono fun k _ e hO' => (hO k hO').1 e⟩
theorem KWO.swo (h : KWO O w wr c b mb ws log l sb m s) : SWO O w wr c b mb ws log := by
  obtain ⟨⟨A, h1, h2, -, -, -, h3⟩, -, -, h6⟩ := h
  exact ⟨⟨A, h1, h2, fun k e => ⟨(h3 k e).1, (h3 k e).2.2⟩⟩, h6⟩
theorem KWO.quiet (h : KWO O w wr c b mb ws log l sb m s) (hk : Keep Nil wr w') : KWO O w w' c b mb ws log l sb m s := by
  obtain ⟨⟨A, h1, h2, q1, q2, q3, q4⟩, h4, h5, h6⟩ := h
  exact ⟨⟨A, (StoreL c b mb).keep h1 hk (fun _ _ h => h), h2, q1, q2, q3, fun k e => ⟨(q4 k e).1, (q4 k e).2.1, by have := (q4 k e).2.2; have := hk.size; omega⟩⟩, h4.quiet hk, h5, h6.trans hk (fun _ _ h => h)⟩
def KWONewTo (O : Nat → Prop) (w wr : World) (c : Cfg) (b mb : Nat) (ws : List Int) (log : List Acc) (s : KS) (e : Ending) (w' : World) : Prop :=
  ∃ l sb m, e = .returned (.tuple #[.pointer (some ⟨l, 0, none⟩), .int .i64 0]) ∧ KWO O w w' c b mb ws log l sb m s ∧ Keep (fun k => ¬ O k) wr w'
theorem kwo_new (h : SWO O w wr c b mb ws log) (t lo hi tr : Int) (t0 : 0 ≤ t) (t1 : t < 64) (r0 : 0 ≤ tr) (r1 : tr ≤ 255) (hs : lo ≤ hi) :
    Calls Tryz.prog 12 #[.pointer (some ⟨b, 0, none⟩), .int .i64 t, .agg #[.int .u64 lo, .int .u64 hi], .int .i64 tr] wr (KWONewTo O w wr c b mb ws log (KS.init t lo hi tr)) := by
  obtain ⟨⟨A, h1, h2, h9⟩, h3⟩ := h
  refine (knew_ok t lo hi tr t0 t1 r0 r1 hs).mono ?_
  rintro e w' ⟨l, sb, m, rfl, h4, h5, h6, h7, h8⟩
  have hlt : ∀ k, A k → k < wr.heap.size := fun k e => (StoreL c b mb).lt h1 k e
  exact ⟨l, sb, m, rfl, ⟨⟨A, (StoreL c b mb).keep h1 h5 (fun _ _ h => h), h2, fun e => by have := hlt _ e; omega, fun e => by have := hlt _ e; omega, fun e => by have := hlt _ e; omega, fun k e => ⟨(h9 k e).1, by have := (h9 k e).2; omega, by have := (h9 k e).2; have := h5.size; omega⟩⟩, h4, by have := h3.size; omega, h3.trans h5 (fun _ _ h => h)⟩, h5.mono (fun _ _ h => h.elim)⟩
def KWOStepTo (O : Nat → Prop) (w wr : World) (c : Cfg) (b mb : Nat) (ws : List Int) (log : List Acc) (l sb m : Nat) (pc nx : Int) (s : KS) (e : Ending) (w' : World) : Prop :=
  e = .returned (.tuple #[.int .u8 pc, .bool (nx == 0)]) ∧ KWO O w w' c b mb ws log l sb m s ∧ Keep (fun k => ¬ O k) wr w'
theorem kwo_step (h : KWO O w wr c b mb ws log l sb m s) (hok : c.ok) (hw : WdOk c ws) (hg : s.good c.lk) (hl : log.length + 1 < 1000000000) :
    Calls Tryz.prog 13 #[.pointer (some ⟨l, 0, none⟩)] wr (KWOStepTo O w wr c b mb (s.ws c.master c.locks ws ((ws[s.at c.master c.locks]?).getD 0)) (log ++ [s.acc c.master c.locks ((ws[s.at c.master c.locks]?).getD 0)]) l sb m s.next (s.step c.lk ((ws[s.at c.master c.locks]?).getD 0)).next (s.step c.lk ((ws[s.at c.master c.locks]?).getD 0))) := by
  obtain ⟨⟨A, ⟨L, F, G, hsp⟩, h2, h3, h4, h5, h9⟩, h6, h7, h8⟩ := h
  obtain ⟨x, hx, -, -⟩ := hw.at (KS.at_lt hg)
  rw [hx, Option.getD_some]
  have hin : KIn wr A c b mb L l sb m F G ws log s := ⟨hsp, hok, h6, h3, h4, h5, hw, hg.t0.1, hg.t0.2, by omega⟩
  have z1 : l < wr.heap.size := lt_of_block h6.head
  have z2 : sb < wr.heap.size := lt_of_block h6.span
  have z3 : m < wr.heap.size := by obtain ⟨c1, c2, c3, c4, c5, c6, c7, c8, hm⟩ := h6.map; exact hm.lt
  refine (kstep_ok hin hg hl x hx).mono ?_
  rintro e w' ⟨rfl, A', q1, q2, q3, q4⟩
  have q4' : ∀ k, A' k → A k ∨ wr.heap.size ≤ k := q4
  refine ⟨rfl, ⟨⟨A', q1, fun k e => (q4' k e).elim (h2 k) (fun e => by have := h8.size; omega), fun e => (q4' l e).elim h3 (fun e => by omega), fun e => (q4' sb e).elim h4 (fun e => by omega), fun e => (q4' m e).elim h5 (fun e => by omega), fun k e => ⟨fun e2 => (q4' k e2).elim (h9 k e).1 (fun e2 => by have := (h9 k e).2.2; omega), (h9 k e).2.1, by have := (h9 k e).2.2; have := q3.size; omega⟩⟩, q2, h7, h8.trans q3 (fun k hlt e => by rcases e with e | e; have := h2 k e; omega; omega)⟩, q3.mono fun k _ e hO => ?_⟩
  rcases e with e | e
  · exact (h9 k hO).1 e
  · exact (h9 k hO).2.1 e
def LockOTo (O : Nat → Prop) (w wr : World) (c : Cfg) (b mb : Nat) (ws' : List Int) (e n er : Int) (k : Nat) (e' : Ending) (w' : World) : Prop :=
  e' = .returned (.tuple #[.int .i64 e, .int .i64 n, .int .i64 er]) ∧ ∃ log' : List Acc, log'.length ≤ k ∧ SWO O w w' c b mb ws' log' ∧ WdOk c ws' ∧ Keep (fun k => ¬ O k) wr w'
set_option maxRecDepth 100000 in
set_option maxHeartbeats 8000000 in
theorem locko_ok (h : SWO O w wr c b mb ws log) (hok : c.ok) (hw : WdOk c ws) (t lo hi tr : Int) (t0 : 0 ≤ t) (t1 : t < 64) (r0 : 0 ≤ tr) (r1 : tr ≤ 255) (hs : lo ≤ hi) (l0 : 0 ≤ lo ∧ lo < 18446744073709551616) (h0 : 0 ≤ hi ∧ hi < 18446744073709551616)
    {f n : Nat} {s' : KS} {ws' : List Int} (hf : n ≤ 2999) (hr : (KS.init t lo hi tr).runs c.lk c.master c.locks f ws = some (n, s', ws')) (hl : log.length < 900000000) (e fl er : Int) (hres : KS.res s' = (e, fl, er)) (nn : Int) (hnn : nn = n) :
    Calls Tryz.prog 20 #[.pointer (some ⟨b, 0, none⟩), .int .i64 t, .agg #[.int .u64 lo, .int .u64 hi], .int .i64 tr] wr (LockOTo O w wr c b mb ws' e nn er (log.length + n)) := by
  subst hnn
  have H := hid (h.quiet ((Keep.refl Nil wr).alloc (.cells #[.int .u64 lo, .int .u64 hi] 28)))
  have HKB := hid (show Keep (fun k => ¬ O k) wr (wr.alloc (.cells #[.int .u64 lo, .int .u64 hi] 28)) from (Keep.refl _ wr).alloc _)
  obtain ⟨wo, hwo⟩ : ∃ wo, wo = wr := ⟨_, rfl⟩
  have HWO := hid hwo
  have HC := hid hok
  have HW := hid hw
  have HR := hid hr
  have HL := hid hl
  have HRES := hid hres
  have HB := hid (And.intro l0 h0)
  have HN := hid hf
  clear h hok hw hr hl hres l0 h0 hf
  go_enter Tryz.func20, Tryz.ntmps20
  go_wp2_with fail
  refine (kwo_new H.out t lo hi tr t0 t1 r0 r1 hs).mono ?_
  rintro e' w1 ⟨l, sb, m, rfl, hkw, hkk⟩
  have HKW := hid hkw
  have HKO := hid (show Keep (fun k => ¬ O k) wo w1 from HWO.out ▸ (HKB.out.trans hkk (fun _ _ h => h)))
  clear hkw hkk hwo HKB
  go_wp2
  go_loopw [9] (fun x wz => ∃ (j f' k : Nat) (sj : KS) (wsj : List Int) (logj : List Acc), x = .int .i64 j ∧ j + k = n ∧ KWO O w wz c b mb wsj logj l sb m sj ∧ Keep (fun k => ¬ O k) wo wz ∧ WdOk c wsj ∧ sj.runs c.lk c.master c.locks f' wsj = some (k, s', ws') ∧ logj.length = log.length + j ∧ (sj.next ≠ 0 → sj.good c.lk) ∧ 0 ≤ sj.fails ∧ sj.fails ≤ j) (fun x _ => n + 1 - (intOf x).toNat)
  case atStart => exact ⟨0, f, n, _, _, _, rfl, by omega, HKW.out, HKO.out, HW.out, HR.out, rfl, fun _ => KS.init_good (by have := HC.out.lk1; omega) t0 t1 HB.out.1 HB.out.2, Int.le_refl 0, Int.le_refl 0⟩
  case round =>
    obtain ⟨j, f', k, sj, wsj, logj, rfl, hjk, hkw, hko, hwd, hrun, hlog, hgd, hfl0, hfl⟩ := hrel
    have HK := hid hkw
    have HKJ := hid hko
    have HWD := hid hwd
    have HRUN := hid hrun
    have HLG := hid hlog
    have HJK := hid hjk
    have HFL := hid (And.intro hfl0 hfl)
    have hj3 : (j : Int) < 3000 := by have := HN.out; omega
    have dj : decide ((j : Int) < 3000) = true := decide_eq_true hj3
    have ej : decide (j < 3000) = true := decide_eq_true (by omega)
    have wj1 : IntKind.i64.wrap ((j : Int) + 1) = (j : Int) + 1 := by rw [IntKind.wrap_i64]; omega
    have nj : j < 3000 := by omega
    clear hkw hko hwd hrun hlog hjk hfl0 hfl HKW HKO
    by_cases hz : sj.next = 0
    · have dz : (sj.next != 0) = false := by rw [hz]; rfl
      obtain ⟨q1, q2, q3⟩ := KS.runs_end HRUN.out hz
      have hjn : j = n := by have := HJK.out; omega
      have HQ := hid (And.intro q2 q3)
      have HJN := hid hjn
      clear hz hgd q1 q2 q3 hjn
      go_wp2_with fail
      refine (knext_ok HK.out.lk).mono ?_
      rintro e' w2 ⟨rfl, rfl⟩
      go_wp2_with fail
      refine (kres_ok HK.out.lk e fl er (by rw [← HQ.out.1]; exact HRES.out)).mono ?_
      rintro e' w3 ⟨rfl, hk⟩
      have HK3 := hid (HK.out.quiet hk)
      have HKE := hid (HKJ.out.trans (hk.mono (T := fun k => ¬ O k) (fun _ _ h => h.elim)) (fun _ _ h => h))
      clear hk
      go_wp2
      go_ret3
      refine ⟨by rw [HJN.out]; rfl, logj, by have := HLG.out; have := HJN.out; omega, by rw [HQ.out.2]; exact HK3.out.swo, by rw [HQ.out.2]; exact HWD.out, by rw [← HWO.out]; exact HKE.out⟩
    · have dz : (sj.next != 0) = true := by simpa using hz
      have hg := hgd hz
      obtain ⟨f2, k2, q1, q2, q3⟩ := KS.runs_more HRUN.out hz
      have hst := kwo_step HK.out HC.out HWD.out hg (by have := HLG.out; have := HL.out; omega)
      have hgn := fun h => KS.step_good (x := (wsj[sj.at c.master c.locks]?).getD 0) hg (by have := HFL.out; have := HJK.out; have := HN.out; omega) (by have := HC.out.lk1; omega) h
      have hwn := KS.ws_ok HWD.out hg ((wsj[sj.at c.master c.locks]?).getD 0)
      have hfn := KS.step_fails (lk := c.lk) (s := sj) (x := (wsj[sj.at c.master c.locks]?).getD 0)
      obtain ⟨s2, hs2⟩ : ∃ s2, s2 = sj.step c.lk ((wsj[sj.at c.master c.locks]?).getD 0) := ⟨_, rfl⟩
      obtain ⟨ws2, hws2⟩ : ∃ ws2, ws2 = sj.ws c.master c.locks wsj ((wsj[sj.at c.master c.locks]?).getD 0) := ⟨_, rfl⟩
      rw [← hs2, ← hws2] at hst q3
      rw [← hs2] at hgn hfn
      rw [← hws2] at hwn
      have HST := hid hst
      have HQ3 := hid q3
      have HGN := hid hgn
      have HWN := hid hwn
      have HFN := hid hfn
      have HQ2 := hid q2
      obtain ⟨q, hq⟩ : ∃ q, q = (s2.next == 0) := ⟨_, rfl⟩
      have HQ := hid hq
      have bq : (q != q) = false := by cases q <;> rfl
      have bn : (sj.next != sj.next) = false := by simp
      clear hz hg hgd hst hgn hwn hfn hs2 hws2 q1 q2 q3 hq
      go_wp2_with fail
      refine (knext_ok HK.out.lk).mono ?_
      rintro e' w2 ⟨rfl, rfl⟩
      go_wp2_with fail
      refine (knext_ok HK.out.lk).mono ?_
      rintro e' w2 ⟨rfl, rfl⟩
      go_wp2_with fail
      refine HST.out.mono ?_
      rintro e' w3 ⟨rfl, hkw, hkk⟩
      rw [← HQ.out]
      have HK2 := hid hkw
      have HKK2 := hid (HKJ.out.trans hkk (fun _ _ h => h))
      clear hkw hkk HST
      go_wp2_with fail
      refine (knext_ok HK2.out.lk).mono ?_
      rintro e' w4 ⟨rfl, rfl⟩
      have HQs := HQ.out
      go_wp2_with fail
      go_roundw
      case rel => exact ⟨j + 1, f2, k2, s2, ws2, _, by go_num, by have := HJK.out; have := HQ2.out; omega, HK2.out, HKK2.out, HWN.out, HQ3.out, by simp only [List.length_append, List.length_singleton]; have := HLG.out; omega, HGN.out, by have := HFN.out; have := HFL.out; omega, by have := HFN.out; have := HFL.out; omega⟩
      case measure => have := HJK.out; have := HQ2.out; simp [intOf]; omega
end
end Go.Proofs.YtmafdjhjmnghcaaGreat
