/- LatchSteps: locks of the program and of the reference, side by side. -/
import Derived.Test.YtckopbjejjeknaaRefLatch
import Derived.Test.YtckopbjejjeknaaTwo
set_option linter.unusedVariables false
set_option linter.unusedSimpArgs false
namespace Go.Lf
/-- Words, log and locks. -/
structure LSt where
  ws : List Int
  log : List Acc
  ops : List LS
structure LSt.ok (S : LSt) (n K : Nat) : Prop where
  lw : S.ws.length = n
  llog : S.log.length ≤ K
  ops : ∀ (i : Nat) (s : LS), S.ops[i]? = some s → 0 ≤ s.t ∧ s.t < 64 ∧ 0 ≤ s.a ∧ s.a < n ∧ 0 ≤ s.f ∧ s.f ≤ K ∧ (s.live = true → s.e = 0)
theorem LSt.ok.mono {S : LSt} {n K K' : Nat} (h : S.ok n K) (hK : K ≤ K') : S.ok n K' := ⟨h.lw, by have := h.llog; omega, fun i s hs => by obtain ⟨a, b, c, d, e, f, g⟩ := h.ops i s hs; exact ⟨a, b, c, d, e, by omega, g⟩⟩
inductive LStep (S : LSt) (t : Nat) : LSt → Int → Bool → Prop where
  | idle {s : LS} (h : S.ops[t]? = some s) (hl : s.live = false) : LStep S t S 0 false
  | yes {s : LS} (h : S.ops[t]? = some s) (hl : s.live = true) (hx : S.ws[s.a.toNat]? = some 0) : LStep S t ⟨S.ws.set s.a.toNat (s.t + 1), S.log ++ [⟨s.t, s.a, 4, 0, s.t + 1, true⟩], S.ops.set t { s with live := false }⟩ 2 true
  | no {s : LS} {x : Int} (h : S.ops[t]? = some s) (hl : s.live = true) (hx : S.ws[s.a.toNat]? = some x) (hx0 : x ≠ 0) : LStep S t ⟨S.ws, S.log ++ [⟨s.t, s.a, 4, x, x, false⟩], S.ops.set t (s.step x)⟩ 2 (s.f + 1 == s.tries)
theorem LS.step_keeps (s : LS) (x : Int) : (s.step x).t = s.t ∧ (s.step x).a = s.a ∧ (s.f ≤ (s.step x).f ∧ (s.step x).f ≤ s.f + 1) ∧ ((s.step x).live = true → (s.step x).e = s.e) := by
  unfold LS.step
  split
  · exact ⟨rfl, rfl, ⟨by simp, by simp; omega⟩, fun h => by simp at h⟩
  · split
    · exact ⟨rfl, rfl, ⟨by simp; omega, by simp⟩, fun h => by simp at h⟩
    · exact ⟨rfl, rfl, ⟨by simp; omega, by simp⟩, fun _ => rfl⟩
theorem LSt.ok.one {S : LSt} {n K t : Nat} (h : S.ok n K) {s s' : LS} {ws' : List Int} {log' : List Acc} (ho : S.ops[t]? = some s) (hw : ws'.length = S.ws.length) (hl : log'.length ≤ K + 1) (ht : s'.t = s.t) (ha : s'.a = s.a) (hf : s.f ≤ s'.f ∧ s'.f ≤ s.f + 1) (he : s'.live = true → s'.e = 0) : LSt.ok ⟨ws', log', S.ops.set t s'⟩ n (K + 1) := by
  refine ⟨hw.trans h.lw, hl, fun i p hp => ?_⟩
  rcases set_cases hp with ⟨-, e⟩ | ⟨-, e⟩
  · subst e
    obtain ⟨a, b, c, d, e, f, g⟩ := h.ops t s ho
    exact ⟨by omega, by omega, by omega, by omega, by omega, by omega, he⟩
  · obtain ⟨a, b, c, d, e, f, g⟩ := h.ops i p e
    exact ⟨a, b, c, d, e, by omega, g⟩
theorem lstep_ex {S : LSt} {n K : Nat} (h : S.ok n K) {t : Nat} {s : LS} (ho : S.ops[t]? = some s) : ∃ S' pc d s', LStep S t S' pc d ∧ S'.ok n (K + 1) ∧ S'.ops[t]? = some s' ∧ S'.ops.length = S.ops.length := by
  obtain ⟨a, b, c, d, e, f, g⟩ := h.ops t s ho
  have hll := h.llog
  cases hl : s.live with
  | false => exact ⟨_, _, _, s, .idle ho hl, h.mono (by omega), ho, rfl⟩
  | true =>
    obtain ⟨x, hx⟩ : ∃ x, S.ws[s.a.toNat]? = some x := ⟨_, List.getElem?_eq_getElem (by have := h.lw; omega)⟩
    by_cases hx0 : x = 0
    · subst hx0
      exact ⟨_, _, _, _, .yes ho hl hx, h.one ho (by simp) (by simp; omega) rfl rfl ⟨by simp, by simp; omega⟩ (fun h => by simp at h), put_self ho _, by simp⟩
    · obtain ⟨k1, k2, k3, k4⟩ := s.step_keeps x
      exact ⟨_, _, _, _, .no ho hl hx hx0, h.one ho rfl (by simp; omega) k1 k2 k3 (fun hh => by rw [k4 hh]; exact g hl), put_self ho _, by simp⟩
def LSt.made (S : LSt) (t a n : Int) : LSt := ⟨S.ws, S.log, S.ops ++ [⟨0, n, t, a, true, 0⟩]⟩
theorem LSt.ok.made {S : LSt} {n K : Nat} (h : S.ok n K) {t a tr : Int} (he : lckErr t a tr n = 0) : (S.made t a tr).ok n (K + 1) := by
  obtain ⟨⟨t0, t1, -, -⟩, a0, a1⟩ := lckErr_zero he
  refine ⟨h.lw, by have := h.llog; show S.log.length ≤ K + 1; omega, fun i p hp => ?_⟩
  rcases get_snoc hp with ⟨-, e⟩ | ⟨-, e⟩
  · subst e; exact ⟨t0, t1, a0, a1, by simp, by simp; omega, fun _ => rfl⟩
  · obtain ⟨a, b, c, d, e, f, g⟩ := h.ops i p e
    exact ⟨a, b, c, d, e, by omega, g⟩
def LSt.freed (S : LSt) (t a : Int) : LSt := ⟨S.ws.set a.toNat 0, S.log ++ [⟨t, a, 2, t + 1, 0, false⟩], S.ops⟩
theorem LSt.ok.freed {S : LSt} {n K : Nat} (h : S.ok n K) (t a : Int) : (S.freed t a).ok n (K + 1) :=
  ⟨by simp [LSt.freed, h.lw], by have := h.llog; simp [LSt.freed]; omega, fun i s hs => by obtain ⟨a, b, c, d, e, f, g⟩ := h.ops i s hs; exact ⟨a, b, c, d, e, by omega, g⟩⟩
end Go.Lf
namespace Go.Proofs.Ytckopbjejjeknaa
open Go.RowKit Go.Lf
def MemLies (mb : Nat) : Lies (List Int × List Acc) where
  lie w F x := MemAt w mb F x.1 x.2
  keep := fun h hk hn => h.keep hk hn
  lt := fun h => h.lt
def RefLies (rb : Nat) : Lies (List Int × List Acc) where
  lie w F x := RefAt w rb F x.1 x.2
  keep := fun h hk hn => h.keep hk hn
  lt := fun h => h.lt
def LockOp (mb : Nat) : OpLies LS where
  at_ w b s := LockAt w b mb s
  keep := fun h hk hn => h.keep hk hn
  lt := fun h => lt_of_block h
def RLockOp (rb : Nat) : OpLies LS where
  at_ w b s := RLockAt w b rb s
  keep := fun h hk hn => h.keep hk hn
  lt := fun h => lt_of_block h
section
variable {w wr w' : World} {mb rb : Nat} {A F : Nat → Prop} {S S' : LSt} {bl cl : List Nat} {n K : Nat}
theorem lpstep (h : ObjsAt (MemLies mb) (LockOp mb) w A (S.ws, S.log) S.ops bl F) (hok : S.ok n K) (hK : K ≤ 1000) {t b : Nat} (hb : bl[t]? = some b) {pc : Int} {d : Bool} (hst : LStep S t S' pc d) :
    Calls Try.prog 22 #[.pointer (some ⟨b, 0, none⟩)] w fun e w' => e = .returned (.tuple #[.int .u8 pc, .bool d]) ∧ ((MemLies mb).objs (LockOp mb)).To w A ((S'.ws, S'.log), S'.ops, bl) w' := by
  have hll := hok.llog
  cases hst with
  | @idle s h1 hl =>
    have hp := (h.objs t b s hb h1).1
    refine (lstep_idle s hp hl).mono ?_
    rintro e w' ⟨rfl, rfl⟩
    exact ⟨rfl, h.same (Keep.refl _ _)⟩
  | @yes s h1 hl hx =>
    obtain ⟨hp, nF⟩ := h.objs t b s hb h1
    obtain ⟨a1, a2, a3, a4, a5, a6, a7⟩ := hok.ops t s h1
    refine (lstep_yes h.sys s hp hl nF a1 a2 a3 hx (by show S.log.length < _; omega)).mono ?_
    rintro e w' ⟨rfl, F', q1, q2, q3, q4, q5⟩
    exact ⟨rfl, h.one hb q1 q2 q4 q5 q3⟩
  | @no s x h1 hl hx hx0 =>
    obtain ⟨hp, nF⟩ := h.objs t b s hb h1
    obtain ⟨a1, a2, a3, a4, a5, a6, a7⟩ := hok.ops t s h1
    refine (lstep_no h.sys s hp hl nF a1 a2 a3 x hx hx0 a5 (by omega) (by show S.log.length < _; omega)).mono ?_
    rintro e w' ⟨rfl, F', q1, q2, q3, q4, q5⟩
    exact ⟨rfl, h.one hb q1 q2 q4 q5 q3⟩
theorem lrstep (h : ObjsAt (RefLies rb) (RLockOp rb) w A (S.ws, S.log) S.ops bl F) (hok : S.ok n K) (hK : K ≤ 1000) {t b : Nat} (hb : bl[t]? = some b) {pc : Int} {d : Bool} (hst : LStep S t S' pc d) :
    Calls Try.prog 31 #[.pointer (some ⟨b, 0, none⟩)] w fun e w' => e = .returned (.tuple #[.int .u8 pc, .bool d]) ∧ ((RefLies rb).objs (RLockOp rb)).To w A ((S'.ws, S'.log), S'.ops, bl) w' := by
  have hll := hok.llog
  cases hst with
  | @idle s h1 hl =>
    have hp := (h.objs t b s hb h1).1
    refine (rlstep_idle hp hl).mono ?_
    rintro e w' ⟨rfl, rfl⟩
    exact ⟨rfl, h.same (Keep.refl _ _)⟩
  | @yes s h1 hl hx =>
    obtain ⟨hp, nF⟩ := h.objs t b s hb h1
    obtain ⟨a1, a2, a3, a4, a5, a6, a7⟩ := hok.ops t s h1
    refine (rlstep_yes h.sys hp hl nF a1 a2 a3 hx (by show S.log.length < _; omega)).mono ?_
    rintro e w' ⟨rfl, F', q1, q2, q3, q4, q5⟩
    exact ⟨rfl, h.one hb q1 q2 q4 q5 q3⟩
  | @no s x h1 hl hx hx0 =>
    obtain ⟨hp, nF⟩ := h.objs t b s hb h1
    obtain ⟨a1, a2, a3, a4, a5, a6, a7⟩ := hok.ops t s h1
    refine (rlstep_no h.sys hp hl (a7 hl) nF a1 a2 a3 x hx hx0 a5 (by omega) (by show S.log.length < _; omega)).mono ?_
    rintro e w' ⟨rfl, F', q1, q2, q3, q4, q5⟩
    exact ⟨rfl, h.one hb q1 q2 q4 q5 q3⟩

/-- Both sides. -/
structure LJ (w : World) (mb rb n K : Nat) (L : Nat → Prop) (S : LSt) (bl cl : List Nat) (wr : World) : Prop where
  two : Two ((MemLies mb).objs (LockOp mb)) ((RefLies rb).objs (RLockOp rb)) w L ((S.ws, S.log), S.ops, bl) ((S.ws, S.log), S.ops, cl) wr
  ok : S.ok n K
variable {L : Nat → Prop}
theorem LJ.p (h : LJ w mb rb n K L S bl cl wr) : ∃ A F, ObjsAt (MemLies mb) (LockOp mb) wr A (S.ws, S.log) S.ops bl F := by
  obtain ⟨A, F, hF⟩ := h.two.has1; exact ⟨A, F, hF⟩
theorem LJ.r (h : LJ w mb rb n K L S bl cl wr) : ∃ A F, ObjsAt (RefLies rb) (RLockOp rb) wr A (S.ws, S.log) S.ops cl F := by
  obtain ⟨A, F, hF⟩ := h.two.has2; exact ⟨A, F, hF⟩
theorem LJ.lens (h : LJ w mb rb n K L S bl cl wr) : bl.length = S.ops.length ∧ cl.length = S.ops.length := by
  obtain ⟨_, _, a⟩ := h.p
  obtain ⟨_, _, b⟩ := h.r
  exact ⟨a.len, b.len⟩
theorem LJ.quiet (h : LJ w mb rb n K L S bl cl wr) (hk : Keep Nil wr w') : LJ w mb rb n K L S bl cl w' := ⟨h.two.quiet hk, h.ok⟩
theorem LJ.mono (h : LJ w mb rb n K L S bl cl wr) {K' : Nat} (hK : K ≤ K') : LJ w mb rb n K' L S bl cl wr := ⟨h.two, h.ok.mono hK⟩
theorem LJ.loc (h : LJ w mb rb n K L S bl cl wr) (hk : Keep L wr w') {L' : Nat → Prop} (hL : ∀ k, L' k → L k ∨ (wr.heap.size ≤ k ∧ k < w'.heap.size)) : LJ w mb rb n K L' S bl cl w' := ⟨h.two.loc hk hL, h.ok⟩
/-- A step by both, one after the other. -/
theorem ljstep (hJ : LJ w mb rb n K L S bl cl wr) (hK : K ≤ 1000) {t a b : Nat} (ha : bl[t]? = some a) (hb : cl[t]? = some b) :
    ∃ S' pc d s', S'.ops[t]? = some s' ∧ (Calls Try.prog 22 #[.pointer (some ⟨a, 0, none⟩)] wr fun e w1 => e = .returned (.tuple #[.int .u8 pc, .bool d]) ∧ Keep (Out w L) wr w1 ∧
      Calls Try.prog 31 #[.pointer (some ⟨b, 0, none⟩)] w1 fun e w2 => e = .returned (.tuple #[.int .u8 pc, .bool d]) ∧ LJ w mb rb n (K + 1) L S' bl cl w2 ∧ Keep (Out w L) wr w2) := by
  obtain ⟨s, hs⟩ : ∃ s, S.ops[t]? = some s := ⟨_, List.getElem?_eq_getElem (by have := (List.getElem?_eq_some_iff.1 ha).1; have := hJ.lens.1; omega)⟩
  obtain ⟨S', pc, d, s', hst, hok, hs', -⟩ := lstep_ex hJ.ok hs
  refine ⟨S', pc, d, s', hs', (hJ.two.call1 (s' := ((S'.ws, S'.log), S'.ops, bl)) (Φ := fun e _ => e = .returned (.tuple #[.int .u8 pc, .bool d])) ?_).mono ?_⟩
  · rintro A ⟨F, hF⟩
    exact lpstep hF hJ.ok hK ha hst
  · rintro e w1 ⟨rfl, h2, k1⟩
    refine ⟨rfl, k1, ?_⟩
    refine (h2.call2 (r' := ((S'.ws, S'.log), S'.ops, cl)) (Φ := fun e _ => e = .returned (.tuple #[.int .u8 pc, .bool d])) ?_).mono ?_
    · rintro B ⟨F, hF⟩
      exact lrstep hF hJ.ok hK hb hst
    · rintro e w2 ⟨rfl, h3, k2⟩
      exact ⟨rfl, ⟨h3, hok⟩, k1.trans k2 (fun _ _ h => h)⟩
theorem ljnew_err (hJ : LJ w mb rb n K L S bl cl wr) (t a tr : Int) (he : lckErr t a tr n ≠ 0) :
    (Calls Try.prog 21 #[.pointer (some ⟨mb, 0, none⟩), .int .i64 t, .int .i64 a, .int .i64 tr] wr fun e w' => e = .returned (.tuple #[.pointer none, .int .i64 (lckErr t a tr n)]) ∧ wr = w') ∧
    (Calls Try.prog 28 #[.pointer (some ⟨rb, 0, none⟩), .int .i64 t, .int .i64 a, .int .i64 tr] wr fun e w' => e = .returned (.tuple #[.pointer none, .int .i64 (lckErr t a tr n)]) ∧ wr = w') := by
  obtain ⟨_, _, hp⟩ := hJ.p
  obtain ⟨_, _, hr⟩ := hJ.r
  have lw := hJ.ok.lw
  subst lw
  exact ⟨lnew_err hp.sys t a tr he, rlnew_err hr.sys t a tr he⟩
theorem ljnew_ok (hJ : LJ w mb rb n K L S bl cl wr) (t a tr : Int) (he : lckErr t a tr n = 0) :
    Calls Try.prog 21 #[.pointer (some ⟨mb, 0, none⟩), .int .i64 t, .int .i64 a, .int .i64 tr] wr fun e w1 => e = .returned (.tuple #[.pointer (some ⟨wr.heap.size, 0, none⟩), .int .i64 0]) ∧ Keep (Out w L) wr w1 ∧
      Calls Try.prog 28 #[.pointer (some ⟨rb, 0, none⟩), .int .i64 t, .int .i64 a, .int .i64 tr] w1 fun e w2 => e = .returned (.tuple #[.pointer (some ⟨w1.heap.size, 0, none⟩), .int .i64 0]) ∧ LJ w mb rb n (K + 1) L (S.made t a tr) (bl ++ [wr.heap.size]) (cl ++ [w1.heap.size]) w2 ∧ Keep (Out w L) wr w2 := by
  have lw := hJ.ok.lw
  refine (hJ.two.call1 (s' := (((S.made t a tr).ws, (S.made t a tr).log), (S.made t a tr).ops, bl ++ [wr.heap.size])) (Φ := fun e _ => e = .returned (.tuple #[.pointer (some ⟨wr.heap.size, 0, none⟩), .int .i64 0])) ?_).mono ?_
  · rintro A ⟨F, hF⟩
    refine (lnew_ok hF.sys t a tr (by show lckErr t a tr S.ws.length = 0; rw [lw]; exact he)).mono ?_
    rintro e w' ⟨rfl, q2, q3, q4⟩
    exact ⟨rfl, hF.new (MemAt.keep hF.sys q3 (fun _ _ h => h)) q2 (q3.mono fun _ _ h => h.elim)⟩
  · rintro e w1 ⟨rfl, h2, k1⟩
    refine ⟨rfl, k1, ?_⟩
    refine (h2.call2 (r' := (((S.made t a tr).ws, (S.made t a tr).log), (S.made t a tr).ops, cl ++ [w1.heap.size])) (Φ := fun e _ => e = .returned (.tuple #[.pointer (some ⟨w1.heap.size, 0, none⟩), .int .i64 0])) ?_).mono ?_
    · rintro B ⟨F, hF⟩
      refine (rlnew_ok hF.sys t a tr (by show lckErr t a tr S.ws.length = 0; rw [lw]; exact he)).mono ?_
      rintro e w' ⟨rfl, q2, q3, q4⟩
      exact ⟨rfl, hF.new (RefAt.keep hF.sys q3 (fun _ _ h => h)) q2 (q3.mono fun _ _ h => h.elim)⟩
    · rintro e w2 ⟨rfl, h3, k2⟩
      exact ⟨rfl, ⟨h3, hJ.ok.made he⟩, k1.trans k2 (fun _ _ h => h)⟩
/-- Unlock by both returns the same. -/
theorem ljunlock (hJ : LJ w mb rb n K L S bl cl wr) (hK : K ≤ 1000) (t a : Int) :
    ∃ e0 S', Calls Try.prog 25 #[.pointer (some ⟨mb, 0, none⟩), .int .i64 t, .int .i64 a] wr fun e w1 => e = .returned (.int .i64 e0) ∧ Keep (Out w L) wr w1 ∧
      Calls Try.prog 29 #[.pointer (some ⟨rb, 0, none⟩), .int .i64 t, .int .i64 a] w1 fun e w2 => e = .returned (.int .i64 e0) ∧ LJ w mb rb n (K + 1) L S' bl cl w2 ∧ Keep (Out w L) wr w2 := by
  obtain ⟨_, _, hp⟩ := hJ.p
  obtain ⟨_, _, hr⟩ := hJ.r
  have lw := hJ.ok.lw
  have hll := hJ.ok.llog
  subst lw
  by_cases he : lckErr t a 0 S.ws.length = 0
  · obtain ⟨⟨t0, t1, -, -⟩, a0, a1⟩ := lckErr_zero he
    obtain ⟨x, hx⟩ : ∃ x, S.ws[a.toNat]? = some x := ⟨_, List.getElem?_eq_getElem (by omega)⟩
    by_cases hne : x = t + 1
    · subst hne
      refine ⟨0, S.freed t a, (hJ.two.call1 (s' := (((S.freed t a).ws, (S.freed t a).log), (S.freed t a).ops, bl)) (Φ := fun e _ => e = .returned (.int .i64 0)) ?_).mono ?_⟩
      · rintro A ⟨F, hF⟩
        refine (unlock_ok hF.sys t a he hx (by show S.log.length < _; omega)).mono ?_
        rintro e w' ⟨rfl, F', q2, q3, q4⟩
        exact ⟨rfl, hF.none (s' := (_, _)) q2 q3 q4⟩
      · rintro e w1 ⟨rfl, h2, k1⟩
        refine ⟨rfl, k1, ?_⟩
        refine (h2.call2 (r' := (((S.freed t a).ws, (S.freed t a).log), (S.freed t a).ops, cl)) (Φ := fun e _ => e = .returned (.int .i64 0)) ?_).mono ?_
        · rintro B ⟨F, hF⟩
          refine (runlock_ok hF.sys t a he hx (by show S.log.length < _; omega)).mono ?_
          rintro e w' ⟨rfl, F', q2, q3, q4⟩
          exact ⟨rfl, hF.none (s' := (_, _)) q2 q3 q4⟩
        · rintro e w2 ⟨rfl, h3, k2⟩
          exact ⟨rfl, ⟨h3, hJ.ok.freed t a⟩, k1.trans k2 (fun _ _ h => h)⟩
    · refine ⟨8, S, (unlock_state hp.sys t a he x hx hne).mono ?_⟩
      rintro e w1 ⟨rfl, rfl⟩
      refine ⟨rfl, Keep.refl _ _, (runlock_state hr.sys t a he x hx hne).mono ?_⟩
      rintro e w1 ⟨rfl, rfl⟩
      exact ⟨rfl, hJ.mono (by omega), Keep.refl _ _⟩
  · refine ⟨lckErr t a 0 S.ws.length, S, (unlock_err hp.sys t a he).mono ?_⟩
    rintro e w1 ⟨rfl, rfl⟩
    refine ⟨rfl, Keep.refl _ _, (runlock_err hr.sys t a he).mono ?_⟩
    rintro e w1 ⟨rfl, rfl⟩
    exact ⟨rfl, hJ.mono (by omega), Keep.refl _ _⟩
end
end Go.Proofs.Ytckopbjejjeknaa
