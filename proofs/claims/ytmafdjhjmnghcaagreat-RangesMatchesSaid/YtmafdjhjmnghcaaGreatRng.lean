/- ranges: where a locking lies; its parts. -/
import Derived.Test.YtmafdjhjmnghcaaGreatRngP
import Derived.Test.YtmafdjhjmnghcaaGreatFnMap
import Derived.Test.YtmafdjhjmnghcaaGreatWdOk
import Derived.Test.YtmafdjhjmnghcaaGreatStoreSw
import Derived.Test.YtmafdjhjmnghcaaGreatLayWord
set_option linter.unusedVariables false
set_option linter.unusedSimpArgs false
namespace Go.Proofs.YtmafdjhjmnghcaaGreat
open Go.RowKit Go.Lf
attribute [local go_sem] fld0 fld1 fld2 fld3 fld4 fld5 fld6 fld7 fld8 fld9 fldc fldl
/-- The steps' functions, by pc. -/
def LockMap (w : World) (m : Nat) : Prop := ∃ c1 c2 c3 c4 c5 c6 c7 c8 : Nat, MapAt w m [(⟨.int .u8 2, .func (.func 64) #[] #[], c1⟩ : MapEntry), ⟨.int .u8 37, .func (.func 65) #[] #[], c2⟩, ⟨.int .u8 38, .func (.func 66) #[] #[], c3⟩, ⟨.int .u8 39, .func (.func 67) #[] #[], c4⟩, ⟨.int .u8 40, .func (.func 68) #[] #[], c5⟩, ⟨.int .u8 41, .func (.func 69) #[] #[], c6⟩, ⟨.int .u8 42, .func (.func 70) #[] #[], c7⟩, ⟨.int .u8 3, .func (.func 71) #[] #[], c8⟩]
@[reducible] def lkCells (sb m b : Nat) (s : KS) : Array Value := #[.pointer (some ⟨b, 0, none⟩), .int .i64 s.th, .int .u64 s.lo, .int .u64 s.hi, .int .i64 s.tries, .int .i64 s.fails, .int .i64 s.entry, .int .i64 s.free, .int .u64 s.low, .bool s.conf, .func (.func 63) #[] #[.pointer (some ⟨sb, 0, none⟩)], .map (some m), .int .u8 s.next, .int .i64 s.err]
structure LkAt (w : World) (l sb m b : Nat) (s : KS) : Prop where
  head : w.heap[l]? = some (.cells (lkCells sb m b s) 134 (0, 0))
  span : w.heap[sb]? = some (.cells #[.int .u64 s.lo, .int .u64 s.hi] 28 (0, 0))
  map : LockMap w m
  e1 : sb ≠ l
  e2 : m ≠ l
/-- A locking and the store have turned. -/
def KTo (w : World) (A : Nat → Prop) (c : Cfg) (b mb : Nat) (ws' : List Int) (log' : List Acc) (l sb m : Nat) (s' : KS) (w' : World) : Prop :=
  ∃ A', (StoreL c b mb).lie w' A' (ws', log') ∧ LkAt w' l sb m b s' ∧ Keep (fun k => A k ∨ k = l) w w' ∧ Foot w A A'
structure KIn (w : World) (A : Nat → Prop) (c : Cfg) (b mb L l sb m : Nat) (F G : Nat → Prop) (ws : List Int) (log : List Acc) (s : KS) : Prop where
  sp : SP w A c b mb L F G ws log
  ok : c.ok
  lk : LkAt w l sb m b s
  n1 : ¬ A l
  n2 : ¬ A sb
  n3 : ¬ A m
  wd : WdOk c ws
  t0 : 0 ≤ s.th
  t1 : s.th < 64
  lg : log.length < 1000000000
section
variable {w w1 w2 w' : World} {A : Nat → Prop} {c : Cfg} {b mb L l sb m : Nat} {F G : Nat → Prop} {ws ws' : List Int} {log log' : List Acc} {s s' : KS}
theorem LkAt.keep (h : LkAt w l sb m b s) {S : Nat → Prop} (hk : Keep S w w') (n1 : ¬ S l) (n2 : ¬ S sb) (n3 : ¬ S m) : LkAt w' l sb m b s := by
  obtain ⟨c1, c2, c3, c4, c5, c6, c7, c8, hm⟩ := h.map
  exact ⟨hk.at h.head n1, hk.at h.span n2, ⟨c1, c2, c3, c4, c5, c6, c7, c8, hm.keep hk n3⟩, h.e1, h.e2⟩
theorem LkAt.quiet (h : LkAt w l sb m b s) (hk : Keep Nil w w') : LkAt w' l sb m b s := h.keep hk (fun h => h) (fun h => h) (fun h => h)
/-- Cells of the locking itself are stored. -/
theorem LkAt.put (h : LkAt w l sb m b s) (hk : Keep (fun k => k = l) w w') (hh : w'.heap[l]? = some (.cells (lkCells sb m b s') 134 (0, 0))) (hl : s'.lo = s.lo ∧ s'.hi = s.hi) : LkAt w' l sb m b s' := by
  obtain ⟨c1, c2, c3, c4, c5, c6, c7, c8, hm⟩ := h.map
  exact ⟨hh, by rw [hl.1, hl.2]; exact hk.at h.span h.e1, ⟨c1, c2, c3, c4, c5, c6, c7, c8, hm.keep hk h.e2⟩, h.e1, h.e2⟩
theorem KIn.one (h : KIn w A c b mb L l sb m F G ws log s) (ht : (StoreL c b mb).To w A (ws', log') w1) (hw : WdOk c ws') (hl : log'.length < 1000000000) : ∃ A1 L1 F1 G1, KIn w1 A1 c b mb L1 l sb m F1 G1 ws' log' s ∧ Keep A w w1 ∧ Foot w A A1 := by
  obtain ⟨A1, ⟨L1, F1, G1, h1⟩, h2, h3⟩ := ht
  have z1 : l < w.heap.size := lt_of_block h.lk.head
  have z2 : sb < w.heap.size := lt_of_block h.lk.span
  have z3 : m < w.heap.size := by obtain ⟨c1, c2, c3, c4, c5, c6, c7, c8, hm⟩ := h.lk.map; exact hm.lt
  exact ⟨A1, L1, F1, G1, ⟨h1, h.ok, h.lk.keep h2 h.n1 h.n2 h.n3, fun e => (h3 l e).elim h.n1 (fun e => by omega), fun e => (h3 sb e).elim h.n2 (fun e => by omega), fun e => (h3 m e).elim h.n3 (fun e => by omega), hw, h.t0, h.t1, hl⟩, h2, h3⟩
theorem KIn.quiet (h : KIn w A c b mb L l sb m F G ws log s) (hk : Keep Nil w w') : KIn w' A c b mb L l sb m F G ws log s :=
  ⟨h.sp.quiet hk, h.ok, h.lk.quiet hk, h.n1, h.n2, h.n3, h.wd, h.t0, h.t1, h.lg⟩
theorem KIn.mine (h : KIn w A c b mb L l sb m F G ws log s) (hk : Keep (fun k => k = l) w w') (hl : LkAt w' l sb m b s') (ht : s'.th = s.th) : KIn w' A c b mb L l sb m F G ws log s' :=
  ⟨h.sp.keep hk (fun k hk e => h.n1 (e ▸ hk)), h.ok, hl, h.n1, h.n2, h.n3, h.wd, by rw [ht]; exact h.t0, by rw [ht]; exact h.t1, h.lg⟩
theorem KIn.two {A1 : Nat → Prop} {L1 : Nat} {F1 G1 : Nat → Prop} {s1 : KS} (h1 : KIn w1 A1 c b mb L1 l sb m F1 G1 ws' log' s1) (k1 : Keep A w w1) (f1 : Foot w A A1) (h2 : LkAt w2 l sb m b s') (k2 : Keep (fun k => k = l) w1 w2) : KTo w A c b mb ws' log' l sb m s' w2 :=
  ⟨A1, ⟨L1, F1, G1, h1.sp.keep k2 (fun k hk e => h1.n1 (e ▸ hk))⟩, h2, (k1.mono (T := fun k => A k ∨ k = l) (fun _ _ h => .inl h)).trans (k2.mono (T := fun k => A k ∨ k = l) (fun _ _ h => .inr h)) (fun _ _ h => h), f1⟩
theorem KIn.still (h : KIn w A c b mb L l sb m F G ws log s) (h2 : LkAt w2 l sb m b s') (k2 : Keep (fun k => k = l) w w2) : KTo w A c b mb ws log l sb m s' w2 :=
  KIn.two h ((Keep.refl A w)) (fun _ e => .inl e) h2 k2
set_option maxRecDepth 100000 in
set_option maxHeartbeats 4000000 in
theorem kaddr_ok (h : SP w A c b mb L F G ws log) (hok : c.ok) (e n : Int) (e0 : 0 ≤ e) (e1 : e ≤ 16) (n0 : 0 ≤ n) (n1 : n ≤ 2) : Calls Tryz.prog 72 #[.pointer (some ⟨b, 0, none⟩), .int .i64 e, .int .i64 n] w fun e' w' => e' = .returned (.int .i64 ((c.locks : Int) + 3 * e + n)) ∧ Keep Nil w w' := by
  have H := hid h
  have hlk : c.locks ≤ 4096 := by
    have := hok.towers
    obtain ⟨-, -, -, hq0, hq1, hq2, hq3, hq4, hq5⟩ := plc_lt c
    omega
  have a1 : IntKind.i64.wrap (3 * e) = 3 * e := by rw [IntKind.wrap_i64]; omega
  have a2 : IntKind.i64.wrap ((c.locks : Int) + 3 * e) = (c.locks : Int) + 3 * e := by rw [IntKind.wrap_i64]; omega
  have a3 : IntKind.i64.wrap ((c.locks : Int) + 3 * e + n) = (c.locks : Int) + 3 * e + n := by rw [IntKind.wrap_i64]; omega
  clear h hok hlk
  go_enter Tryz.func72, Tryz.ntmps72
  go_wp2_with fail
  refine (blayout_ok H.out).mono ?_
  rintro e' w1 ⟨rfl, rfl⟩
  go_wp2_with fail
  refine (places_ok H.out.lay.at_).mono ?_
  rintro e' w1 ⟨rfl, hk⟩
  have HK := hid hk
  clear hk
  go_wp2
  go_ret
  exact ⟨rfl, HK.out⟩
set_option maxRecDepth 100000 in
set_option maxHeartbeats 4000000 in
theorem kload_ok (h : KIn w A c b mb L l sb m F G ws log s) (n : Int) (n0 : 0 ≤ n) (n1 : n ≤ 2) (e0 : 0 ≤ s.entry) (e1 : s.entry ≤ 16) (x : Int) (hx : ws[c.locks + 3 * s.entry.toNat + n.toNat]? = some x) :
    Calls Tryz.prog 127 #[.pointer (some ⟨l, 0, none⟩), .int .i64 n] w fun e w' => e = .returned (.int .u64 x) ∧ (StoreL c b mb).To w A (ws, log ++ [⟨s.th, (c.locks : Int) + 3 * s.entry + n, 1, x, x, false⟩]) w' := by
  have H := hid h
  have HX := hid hx
  have c0 : w.cell? ⟨l, 0, none⟩ = some (.pointer (some ⟨b, 0, none⟩)) := by rw [cell_of h.lk.head]; rfl
  have c1 : w.cell? ⟨l, 1, none⟩ = some (.int .i64 s.th) := by rw [cell_of h.lk.head]; rfl
  have c6 : w.cell? ⟨l, 6, none⟩ = some (.int .i64 s.entry) := by rw [cell_of h.lk.head]; rfl
  have HB := hid (And.intro e0 e1)
  have HQ := hid (show ((c.locks : Int) + 3 * s.entry + n).toNat = c.locks + 3 * s.entry.toNat + n.toNat by omega)
  have HQ0 := hid (show 0 ≤ (c.locks : Int) + 3 * s.entry + n by omega)
  clear h hx e0 e1
  go_enter Tryz.func127, Tryz.ntmps127
  have KD := hid ((Keep.refl Nil w).drew)
  go_wp2
  go_region_held3 (fun w' => w'.cell? ⟨l, 0, none⟩ = some (.pointer (some ⟨b, 0, none⟩)) ∧ w'.cell? ⟨l, 1, none⟩ = some (.int .i64 s.th) ∧ w'.cell? ⟨l, 6, none⟩ = some (.int .i64 s.entry)) (go_keep)
    (first
      | (go_at_call 24; (with_reducible refine (bmem_ok (H.out.sp.quiet KD.out)).mono ?_); rintro e w9 ⟨rfl, rfl⟩)
      | (go_at_call 72; (with_reducible refine (kaddr_ok (H.out.sp.quiet KD.out) H.out.ok s.entry n HB.out.1 HB.out.2 n0 n1).mono ?_); rintro e w8 ⟨rfl, hk8⟩; have K8 := hid (KD.out.trans hk8 (fun _ _ h => h)); have r8 := H.out.lk.quiet K8.out; have i0 : w8.cell? ⟨l, 0, none⟩ = some (.pointer (some ⟨b, 0, none⟩)) := (by rw [cell_of r8.head]; rfl); have i1 : w8.cell? ⟨l, 1, none⟩ = some (.int .i64 s.th) := (by rw [cell_of r8.head]; rfl); have i6 : w8.cell? ⟨l, 6, none⟩ = some (.int .i64 s.entry) := (by rw [cell_of r8.head]; rfl); clear hk8 r8)
      | (go_at_call 176; (with_reducible refine (load_ok (H.out.sp.quiet K8.out).mem s.th ((c.locks : Int) + 3 * s.entry + n) x H.out.t0 H.out.t1 HQ0.out (by rw [HQ.out]; exact HX.out) (Nat.lt_trans H.out.lg (by decide))).mono ?_); rintro e w10 ⟨rfl, hm⟩; have HM := hid (H.out.sp.turn K8.out hm); obtain ⟨A1, ⟨L1, F1, G1, s1⟩, k1, f1⟩ := HM.out; have q1 := H.out.lk.keep k1 H.out.n1 H.out.n2 H.out.n3; have j0 : w10.cell? ⟨l, 0, none⟩ = some (.pointer (some ⟨b, 0, none⟩)) := (by rw [cell_of q1.head]; rfl); have j1 : w10.cell? ⟨l, 1, none⟩ = some (.int .i64 s.th) := (by rw [cell_of q1.head]; rfl); have j6 : w10.cell? ⟨l, 6, none⟩ = some (.int .i64 s.entry) := (by rw [cell_of q1.head]; rfl); clear hm s1 q1 k1 f1))
  all_goals
    go_wp2
    go_ret
    exact ⟨rfl, HM.out⟩
set_option maxRecDepth 100000 in
set_option maxHeartbeats 4000000 in
theorem kstore_ok (h : KIn w A c b mb L l sb m F G ws log s) (n : Int) (n0 : 0 ≤ n) (n1 : n ≤ 2) (e0 : 0 ≤ s.free) (e1 : s.free ≤ 16) (v x : Int) (hx : ws[c.locks + 3 * s.free.toNat + n.toNat]? = some x) :
    Calls Tryz.prog 130 #[.pointer (some ⟨l, 0, none⟩), .int .i64 n, .int .u64 v] w fun e w' => e = .returned (.tuple #[]) ∧ (StoreL c b mb).To w A (ws.set (c.locks + 3 * s.free.toNat + n.toNat) v, log ++ [⟨s.th, (c.locks : Int) + 3 * s.free + n, 2, x, v, false⟩]) w' := by
  have H := hid h
  have HX := hid hx
  have c0 : w.cell? ⟨l, 0, none⟩ = some (.pointer (some ⟨b, 0, none⟩)) := by rw [cell_of h.lk.head]; rfl
  have c1 : w.cell? ⟨l, 1, none⟩ = some (.int .i64 s.th) := by rw [cell_of h.lk.head]; rfl
  have c7 : w.cell? ⟨l, 7, none⟩ = some (.int .i64 s.free) := by rw [cell_of h.lk.head]; rfl
  have HB := hid (And.intro e0 e1)
  have HQ := hid (show ((c.locks : Int) + 3 * s.free + n).toNat = c.locks + 3 * s.free.toNat + n.toNat by omega)
  have HQ0 := hid (show 0 ≤ (c.locks : Int) + 3 * s.free + n by omega)
  clear h hx e0 e1
  go_enter Tryz.func130, Tryz.ntmps130
  have KD := hid ((Keep.refl Nil w).drew)
  go_wp2
  go_region_held3 (fun w' => w'.cell? ⟨l, 0, none⟩ = some (.pointer (some ⟨b, 0, none⟩)) ∧ w'.cell? ⟨l, 1, none⟩ = some (.int .i64 s.th) ∧ w'.cell? ⟨l, 7, none⟩ = some (.int .i64 s.free)) (go_keep)
    (first
      | (go_at_call 24; (with_reducible refine (bmem_ok (H.out.sp.quiet KD.out)).mono ?_); rintro e w9 ⟨rfl, rfl⟩)
      | (go_at_call 72; (with_reducible refine (kaddr_ok (H.out.sp.quiet KD.out) H.out.ok s.free n HB.out.1 HB.out.2 n0 n1).mono ?_); rintro e w8 ⟨rfl, hk8⟩; have K8 := hid (KD.out.trans hk8 (fun _ _ h => h)); have r8 := H.out.lk.quiet K8.out; have i0 : w8.cell? ⟨l, 0, none⟩ = some (.pointer (some ⟨b, 0, none⟩)) := (by rw [cell_of r8.head]; rfl); have i1 : w8.cell? ⟨l, 1, none⟩ = some (.int .i64 s.th) := (by rw [cell_of r8.head]; rfl); have i7 : w8.cell? ⟨l, 7, none⟩ = some (.int .i64 s.free) := (by rw [cell_of r8.head]; rfl); clear hk8 r8)
      | (go_at_call 25; (with_reducible refine (store_ok (H.out.sp.quiet K8.out).mem s.th ((c.locks : Int) + 3 * s.free + n) x v H.out.t0 H.out.t1 HQ0.out (by rw [HQ.out]; exact HX.out) (Nat.lt_trans H.out.lg (by decide))).mono ?_); rintro e w10 ⟨rfl, hm⟩; rw [HQ.out] at hm; have HM := hid (H.out.sp.turn K8.out hm); obtain ⟨A1, ⟨L1, F1, G1, s1⟩, k1, f1⟩ := HM.out; have q1 := H.out.lk.keep k1 H.out.n1 H.out.n2 H.out.n3; have j0 : w10.cell? ⟨l, 0, none⟩ = some (.pointer (some ⟨b, 0, none⟩)) := (by rw [cell_of q1.head]; rfl); have j1 : w10.cell? ⟨l, 1, none⟩ = some (.int .i64 s.th) := (by rw [cell_of q1.head]; rfl); have j7 : w10.cell? ⟨l, 7, none⟩ = some (.int .i64 s.free) := (by rw [cell_of q1.head]; rfl); clear hm s1 q1 k1 f1))
  all_goals
    go_wp2
    go_end0
    exact ⟨rfl, HM.out⟩
/-- again, clash, following: the locking alone is written. -/
def KMine (w : World) (l sb m b : Nat) (p : KS × Int) (e : Ending) (w' : World) : Prop := e = .returned (.int .u8 p.2) ∧ LkAt w' l sb m b p.1 ∧ Keep (fun k => k = l) w w'
set_option maxHeartbeats 4000000 in
theorem kagain_ok (h : LkAt w l sb m b s) : Calls Tryz.prog 126 #[.pointer (some ⟨l, 0, none⟩)] w (KMine w l sb m b s.again) := by
  have H := hid h
  have c4 : w.cell? ⟨l, 4, none⟩ = some (.int .i64 s.tries) := by rw [cell_of h.head]; rfl
  have c5 : w.cell? ⟨l, 5, none⟩ = some (.int .i64 s.fails) := by rw [cell_of h.head]; rfl
  have f13 : w.frozen? ⟨l, 13, none⟩ = false := free_of h.head 13
  have c13 : w.cell? ⟨l, 13, none⟩ = some (.int .i64 s.err) := by rw [cell_of h.head]; rfl
  clear h
  by_cases hq : s.fails = s.tries
  · have d : (s.fails == s.tries) = true := beq_iff_eq.2 hq
    have HA := hid (show s.again = ({ s with err := 11 }, 0) from if_pos hq)
    clear hq
    go_enter Tryz.func126, Tryz.ntmps126
    go_wp2
    go_quiet (fail)
    go_wp2
    go_ret
    rw [HA.out]
    have hk : Keep (fun k => k = l) w ((w.drewN nq).setCell ⟨l, 13, none⟩ (.int .i64 11)) := ((Keep.refl (fun k => k = l) w).drewN nq).setCell (.inl rfl) _
    exact ⟨rfl, H.out.put hk (set_same H.out.head _) ⟨rfl, rfl⟩, hk⟩
  · have d : (s.fails == s.tries) = false := beq_eq_false_iff_ne.2 hq
    have HA := hid (show s.again = (s, 2) from if_neg hq)
    clear hq
    go_enter Tryz.func126, Tryz.ntmps126
    go_wp2
    go_quiet (fail)
    go_wp2
    go_ret
    rw [HA.out]
    exact ⟨rfl, H.out.quiet ((Keep.refl Nil w).drewN nq), (Keep.refl _ w).drewN nq⟩
set_option maxHeartbeats 4000000 in
theorem kclash_ok (h : LkAt w l sb m b s) (hf : 0 ≤ s.fails ∧ s.fails < 1000000) : Calls Tryz.prog 129 #[.pointer (some ⟨l, 0, none⟩)] w (KMine w l sb m b s.clash) := by
  have H := hid h
  have c5 : w.cell? ⟨l, 5, none⟩ = some (.int .i64 s.fails) := by rw [cell_of h.head]; rfl
  have f5 : w.frozen? ⟨l, 5, none⟩ = false := free_of h.head 5
  have f9 : w.frozen? ⟨l, 9, none⟩ = false := free_of h.head 9
  have c9 : w.cell? ⟨l, 9, none⟩ = some (.bool s.conf) := by rw [cell_of h.head]; rfl
  have wf : IntKind.i64.wrap (s.fails + 1) = s.fails + 1 := by rw [IntKind.wrap_i64]; omega
  clear h hf
  go_enter Tryz.func129, Tryz.ntmps129
  go_wp2
  go_ret
  have hk : Keep (fun k => k = l) w ((w.setCell ⟨l, 5, none⟩ (.int .i64 (s.fails + 1))).setCell ⟨l, 9, none⟩ (.bool true)) := ((Keep.refl (fun k => k = l) w).setCell (.inl rfl) _).setCell (.inl rfl) _
  exact ⟨rfl, H.out.put hk (set_same (set_same H.out.head _) _) ⟨rfl, rfl⟩, hk⟩
set_option maxRecDepth 100000 in
set_option maxHeartbeats 4000000 in
theorem kfollow_ok (h : KIn w A c b mb L l sb m F G ws log s) (e0 : 0 ≤ s.entry) (e1 : s.entry ≤ 16) (hf : 0 ≤ s.fails ∧ s.fails < 1000000) : Calls Tryz.prog 128 #[.pointer (some ⟨l, 0, none⟩)] w (KMine w l sb m b (s.follow c.lk)) := by
  have H := hid h
  have f6 : w.frozen? ⟨l, 6, none⟩ = false := free_of h.lk.head 6
  have c6 : w.cell? ⟨l, 6, none⟩ = some (.int .i64 s.entry) := by rw [cell_of h.lk.head]; rfl
  have we : IntKind.i64.wrap (s.entry + 1) = s.entry + 1 := by rw [IntKind.wrap_i64]; omega
  obtain ⟨q, hq⟩ : ∃ q : KS, q = { s with entry := s.entry + 1 } := ⟨_, rfl⟩
  obtain ⟨X, hX⟩ : ∃ X, X = w.setCell ⟨l, 6, none⟩ (.int .i64 (s.entry + 1)) := ⟨_, rfl⟩
  have kX : Keep (fun k => k = l) w X := hX ▸ (Keep.refl (fun k => k = l) w).setCell (.inl rfl) _
  have lX : LkAt X l sb m b q := by rw [hq]; exact h.lk.put kX (by rw [hX]; exact set_same h.lk.head _) ⟨rfl, rfl⟩
  have HI := hid (h.mine kX lX (by rw [hq]))
  have HKX := hid kX
  have HX := hid hX
  have hqf : q.fails = s.fails ∧ q.free = s.free ∧ q.entry = s.entry + 1 := by rw [hq]; exact ⟨rfl, rfl, rfl⟩
  have HF := hid (show s.follow c.lk = if q.entry < c.lk then (q, 37) else if q.free < 0 then q.clash else (q, 40) from by rw [hq]; rfl)
  have x0 : X.cell? ⟨l, 0, none⟩ = some (.pointer (some ⟨b, 0, none⟩)) := by rw [cell_of lX.head]; rfl
  have x6 : X.cell? ⟨l, 6, none⟩ = some (.int .i64 q.entry) := by rw [cell_of lX.head]; rfl
  have x7 : X.cell? ⟨l, 7, none⟩ = some (.int .i64 q.free) := by rw [cell_of lX.head]; rfl
  have HQ := hid hqf
  have HFL := hid hf
  clear h kX lX hX hq hqf hf e0 e1
  have KD := hid ((Keep.refl Nil X).drew)
  by_cases hlt : q.entry < (c.lk : Int)
  · have dl : decide (q.entry < (c.lk : Int)) = true := decide_eq_true hlt
    have HF2 := hid (show s.follow c.lk = (q, 37) from by rw [HF.out, if_pos hlt])
    clear hlt
    go_enter Tryz.func128, Tryz.ntmps128
    go_wp2_with fail
    rw [← HX.out]
    clear c6 f6
    go_region_held3 (fun w' => w'.cell? ⟨l, 0, none⟩ = some (.pointer (some ⟨b, 0, none⟩)) ∧ w'.cell? ⟨l, 6, none⟩ = some (.int .i64 q.entry)) (go_keep)
      (first
        | (go_at_call 44; (with_reducible refine (bconfig_ok (HI.out.sp.quiet KD.out) HI.out.ok).mono ?_); rintro e w1 ⟨t1, t2, t3, t4, t5, t6, a, cp, rfl, hk1⟩; have K8 := hid (KD.out.trans hk1 (fun _ _ h => h)); have r8 := HI.out.lk.quiet K8.out; have e0 : w1.cell? ⟨l, 0, none⟩ = some (.pointer (some ⟨b, 0, none⟩)) := (by rw [cell_of r8.head]; rfl); have e6 : w1.cell? ⟨l, 6, none⟩ = some (.int .i64 q.entry) := (by rw [cell_of r8.head]; rfl); clear hk1 r8))
    all_goals
      go_wp2
      go_ret
      rw [HF2.out]
      exact ⟨rfl, HI.out.lk.quiet K8.out, HKX.out.trans (K8.out.mono (T := fun k => k = l) (fun _ _ h => h.elim)) (fun _ _ h => h)⟩
  · have dl : decide (q.entry < (c.lk : Int)) = false := decide_eq_false hlt
    by_cases hfr : q.free < 0
    · have df : decide (q.free < 0) = true := decide_eq_true hfr
      have HF2 := hid (show s.follow c.lk = q.clash from by rw [HF.out, if_neg hlt, if_pos hfr])
      clear hlt hfr
      go_enter Tryz.func128, Tryz.ntmps128
      go_wp2_with fail
      rw [← HX.out]
      clear c6 f6
      go_region_held3 (fun w' => w'.cell? ⟨l, 0, none⟩ = some (.pointer (some ⟨b, 0, none⟩)) ∧ w'.cell? ⟨l, 6, none⟩ = some (.int .i64 q.entry)) (go_keep)
        (first
          | (go_at_call 44; (with_reducible refine (bconfig_ok (HI.out.sp.quiet KD.out) HI.out.ok).mono ?_); rintro e w1 ⟨t1, t2, t3, t4, t5, t6, a, cp, rfl, hk1⟩; have K8 := hid (KD.out.trans hk1 (fun _ _ h => h)); have r8 := HI.out.lk.quiet K8.out; have e0 : w1.cell? ⟨l, 0, none⟩ = some (.pointer (some ⟨b, 0, none⟩)) := (by rw [cell_of r8.head]; rfl); have e6 : w1.cell? ⟨l, 6, none⟩ = some (.int .i64 q.entry) := (by rw [cell_of r8.head]; rfl); have HR8 := hid r8; clear hk1 r8))
      all_goals
        have e7 : w1.cell? ⟨l, 7, none⟩ = some (.int .i64 q.free) := by rw [cell_of HR8.out.head]; rfl
        go_wp2_with fail
        refine (kclash_ok HR8.out (by rw [HQ.out.1]; exact HFL.out)).mono ?_
        rintro e w2 ⟨rfl, hl2, hk2⟩
        have HL2 := hid hl2
        have HK2 := hid ((HKX.out.trans (K8.out.mono (T := fun k => k = l) (fun _ _ h => h.elim)) (fun _ _ h => h)).trans hk2 (fun _ _ h => h))
        clear hl2 hk2
        go_wp2
        go_ret
        rw [HF2.out]
        exact ⟨rfl, HL2.out, HK2.out⟩
    · have df : decide (q.free < 0) = false := decide_eq_false hfr
      have HF2 := hid (show s.follow c.lk = (q, 40) from by rw [HF.out, if_neg hlt, if_neg hfr])
      clear hlt hfr
      go_enter Tryz.func128, Tryz.ntmps128
      go_wp2_with fail
      rw [← HX.out]
      clear c6 f6
      go_region_held3 (fun w' => w'.cell? ⟨l, 0, none⟩ = some (.pointer (some ⟨b, 0, none⟩)) ∧ w'.cell? ⟨l, 6, none⟩ = some (.int .i64 q.entry)) (go_keep)
        (first
          | (go_at_call 44; (with_reducible refine (bconfig_ok (HI.out.sp.quiet KD.out) HI.out.ok).mono ?_); rintro e w1 ⟨t1, t2, t3, t4, t5, t6, a, cp, rfl, hk1⟩; have K8 := hid (KD.out.trans hk1 (fun _ _ h => h)); have r8 := HI.out.lk.quiet K8.out; have e0 : w1.cell? ⟨l, 0, none⟩ = some (.pointer (some ⟨b, 0, none⟩)) := (by rw [cell_of r8.head]; rfl); have e6 : w1.cell? ⟨l, 6, none⟩ = some (.int .i64 q.entry) := (by rw [cell_of r8.head]; rfl); have HR8 := hid r8; clear hk1 r8))
      all_goals
        have e7 : w1.cell? ⟨l, 7, none⟩ = some (.int .i64 q.free) := by rw [cell_of HR8.out.head]; rfl
        go_wp2
        go_ret
        rw [HF2.out]
        exact ⟨rfl, HI.out.lk.quiet K8.out, HKX.out.trans (K8.out.mono (T := fun k => k = l) (fun _ _ h => h.elim)) (fun _ _ h => h)⟩
end
end Go.Proofs.YtmafdjhjmnghcaaGreat
