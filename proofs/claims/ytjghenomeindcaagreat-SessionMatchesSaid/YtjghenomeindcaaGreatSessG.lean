/- Openings beside a store, the other side being any: contracts with the accesses. -/
import Derived.Test.YtjghenomeindcaaGreatSessOpen
import Derived.Test.YtjghenomeindcaaGreatSessCl
set_option linter.unusedVariables false
set_option linter.unusedSimpArgs false
namespace Go.Proofs.YtjghenomeindcaaGreat
open Go.RowKit Go.Lf
/-- An opening that was made: its block, its row, its thread, its state. -/
structure OO where
  o : Nat
  a : Option Addr
  cp : Nat
  t : Int
  s : OS
def OOPtr : Option OO → Value
  | none => .pointer none
  | some x => .pointer (some ⟨x.o, 0, none⟩)
/-- Openings as objects. -/
def OpB (b : Nat) : ObLies (Option OO) where
  at_ w x := match x with | none => True | some x => OpenAt w x.o b x.t x.s x.a x.cp
  has x k := match x with | none => False | some x => k = x.o ∨ (Value.slice x.a x.s.left.length x.cp).ownBlock = some k
  keep {w w' x S} h hk hn := by
    cases x with
    | none => trivial
    | some x => exact OpenAt.keep h hk (hn x.o (.inl rfl)) (fun k e => hn k (.inr e))
  lt {w x k} h hh := by
    cases x with
    | none => exact hh.elim
    | some x =>
      rcases hh with rfl | e
      · exact lt_of_block (OpenAt.head h)
      · exact (OpenAt.blk h k e).1
def SesL (c : Cfg) (b mb : Nat) : Lies ((List Int × List Acc) × List (Option OO)) := (StoreL c b mb).objsB (OpB b)
abbrev SesG {τ : Type} (R : Lies τ) (rr : τ) (w wr : World) (L : Nat → Prop) (c : Cfg) (b mb : Nat) (ws : List Int) (log : List Acc) (obs : List (Option OO)) : Prop := Two (SesL c b mb) R w L ((ws, log), obs) rr wr
section
variable {τ : Type} {R : Lies τ} {rr : τ} {w wr : World} {Lo : Nat → Prop} {c : Cfg} {b mb : Nat} {ws : List Int} {log : List Acc} {obs : List (Option OO)} {t slot : Int}
theorem SesG.sp (h : SesG R rr w wr Lo c b mb ws log obs) : ∃ A L F G, SP wr A c b mb L F G ws log := by
  obtain ⟨A, F, h1⟩ := h.has1
  obtain ⟨L, F2, G, hs⟩ := h1.sys
  exact ⟨_, L, F2, G, hs⟩
theorem SesG.ob (h : SesG R rr w wr Lo c b mb ws log obs) {k : Nat} {x : OO} (hx : obs[k]? = some (some x)) : OpenAt wr x.o b x.t x.s x.a x.cp := by
  obtain ⟨A, F, h1⟩ := h.has1
  exact (h1.objs k (some x) hx).1
theorem j_close_state (h : SesG R rr w wr Lo c b mb ws log obs) (hok : c.ok) (t0 : 0 ≤ t) (t1 : t < 64) (s0 : 0 ≤ slot) (s1 : slot < c.sl) {x : Int} (hx : ws[slot.toNat]? = some x) (hne : x ≠ t + 1) : Calls Tryz.prog 12 #[.pointer (some ⟨b, 0, none⟩), .int .i64 t, .int .i64 slot] wr fun e w' => e = .returned (.int .i64 8) ∧ Keep Nil wr w' := by
  obtain ⟨A, L, F, G, hs⟩ := (SesG.sp h)
  exact sclose_state hs hok t0 t1 s0 s1 hx hne
theorem j_close (h : SesG R rr w wr Lo c b mb ws log obs) (hok : c.ok) (t0 : 0 ≤ t) (t1 : t < 64) (s0 : 0 ≤ slot) (s1 : slot < c.sl) (hx : ws[slot.toNat]? = some (t + 1)) (hlog : log.length < 1000000000000) : Calls Tryz.prog 12 #[.pointer (some ⟨b, 0, none⟩), .int .i64 t, .int .i64 slot] wr fun e w' => e = .returned (.int .i64 0) ∧ SesG R rr w w' Lo c b mb (ws.set slot.toNat 0) (log ++ [⟨t, slot, 2, t + 1, 0, false⟩]) obs ∧ Keep (Out w Lo) wr w' := by
  refine Two.call1 h (Φ := fun e _ => e = .returned (.int .i64 0)) (s' := ((ws.set slot.toNat 0, log ++ [⟨t, slot, 2, t + 1, 0, false⟩]), obs)) fun A hl => ?_
  obtain ⟨F, hl⟩ := hl
  obtain ⟨L, F2, G, hs⟩ := hl.sys
  refine (sclose_ok hs hok t0 t1 s0 s1 hx hlog).mono ?_
  rintro e w' ⟨rfl, F', hs', hk, hf⟩
  obtain ⟨A', h1, h2, h3⟩ := hl.none hs' hk hf
  exact ⟨rfl, A', ⟨F', h1⟩, h2, h3⟩
theorem j_owners (h : SesG R rr w wr Lo c b mb ws log obs) (hok : c.ok) (hlen : c.sl ≤ ws.length) (hwf : ∀ x ∈ ws, 0 ≤ x ∧ x < 18446744073709551616) : Calls Tryz.prog 13 #[.pointer (some ⟨b, 0, none⟩)] wr (OwnTo wr ((ws.take c.sl).map ownOf)) := by
  obtain ⟨A, L, F, G, hs⟩ := (SesG.sp h)
  exact sowners_ok hs hok hlen hwf
theorem j_close_bad (b : Nat) (w : World) {t slot : Int} (h : t < 0 ∨ 64 ≤ t) : Calls Tryz.prog 12 #[.pointer (some ⟨b, 0, none⟩), .int .i64 t, .int .i64 slot] w fun e w' => e = .returned (.int .i64 2) ∧ Keep Nil w w' := sclose_bad b h
theorem j_close_range (h : SesG R rr w wr Lo c b mb ws log obs) (hok : c.ok) (t0 : 0 ≤ t) (t1 : t < 64) (hs : slot < 0 ∨ (c.sl : Int) ≤ slot) : Calls Tryz.prog 12 #[.pointer (some ⟨b, 0, none⟩), .int .i64 t, .int .i64 slot] wr fun e w' => e = .returned (.int .i64 3) ∧ Keep Nil wr w' := by
  obtain ⟨A, L, F, G, hsp⟩ := (SesG.sp h)
  exact sclose_range hsp hok t0 t1 hs
/-- A new opening in the place of the old one. -/
def JNewTo {τ : Type} (R : Lies τ) (rr : τ) (w wr : World) (Lo : Nat → Prop) (c : Cfg) (b mb : Nat) (ws : List Int) (log : List Acc) (obs : List (Option OO)) (t : Int) (e : Ending) (w' : World) : Prop :=
  ∃ x : OO, x.t = t ∧ x.s = ⟨List.range c.sl, 0, 0⟩ ∧ e = .returned (.tuple #[OOPtr (some x), .int .i64 0]) ∧ SesG R rr w w' Lo c b mb ws log (obs ++ [some x]) ∧ Keep (Out w Lo) wr w'
theorem j_new (h : SesG R rr w wr Lo c b mb ws log obs) (hok : c.ok) (t0 : 0 ≤ t) (t1 : t < 64) : Calls Tryz.prog 8 #[.pointer (some ⟨b, 0, none⟩), .int .i64 t] wr (JNewTo R rr w wr Lo c b mb ws log obs t) := by
  refine (Two.call1x h (X := OO) (Φ := fun x e => x.t = t ∧ x.s = ⟨List.range c.sl, 0, 0⟩ ∧ e = .returned (.tuple #[OOPtr (some x), .int .i64 0])) (s' := fun x => ((ws, log), obs ++ [some x])) fun A hl => ?_).mono fun e w' ⟨x, ⟨h1, h2, h3⟩, h4, h5⟩ => ⟨x, h1, h2, h3, h4, h5⟩
  obtain ⟨F, hl⟩ := hl
  obtain ⟨L, F2, G, hs⟩ := hl.sys
  refine (snew_ok hs hok t t0 t1).mono ?_
  rintro e w' ⟨o, a, cp, rfl, hO, hkp, ho, hn⟩
  refine ⟨⟨o, a, cp, t, ⟨List.range c.sl, 0, 0⟩⟩, ⟨rfl, rfl, rfl⟩, ?_⟩
  have hF : ∀ j, wr.heap.size ≤ j → ¬ F j := fun j hj hFj => by have := (StoreL c b mb).lt hl.sys j hFj; omega
  obtain ⟨A', h1, h2, h3⟩ := hl.new (o := some ⟨o, a, cp, t, ⟨List.range c.sl, 0, 0⟩⟩) ((StoreL c b mb).keep hl.sys hkp (fun _ _ h => h)) hO (hkp.mono (fun _ _ h => h.elim)) (fun _ h => .inl h) (fun j hj => by
    have hj' : wr.heap.size ≤ j := by
      rcases hj with rfl | e
      · exact ho
      · exact hn j (by simpa using e)
    exact ⟨hF j hj', hj'⟩)
  exact ⟨A', ⟨F, h1⟩, h2, h3⟩
/-- A step has been made. -/
def JStepTo {τ : Type} (R : Lies τ) (rr : τ) (w wr : World) (Lo : Nat → Prop) (c : Cfg) (b mb : Nat) (ws' : List Int) (log' : List Acc) (obs : List (Option OO)) (k : Nat) (x : OO) (s' : OS) (done : Bool) (e : Ending) (w' : World) : Prop :=
  e = .returned (.tuple #[.int .u8 35, .bool done]) ∧ ∃ y : OO, y.o = x.o ∧ y.t = x.t ∧ y.s = s' ∧ SesG R rr w w' Lo c b mb ws' log' (obs.set k (some y)) ∧ Keep (Out w Lo) wr w'
theorem j_step (h : SesG R rr w wr Lo c b mb ws log obs) {k : Nat} {x : OO} (hx : obs[k]? = some (some x)) {ws' : List Int} {s' : OS} {done : Bool} {ac : Acc}
    (hc : ∀ A L F G, SP wr A c b mb L F G ws log → OpenAt wr x.o b x.t x.s x.a x.cp → ¬ A x.o → (∀ j, (Value.slice x.a x.s.left.length x.cp).ownBlock = some j → ¬ A j) →
      Calls Tryz.prog 9 #[.pointer (some ⟨x.o, 0, none⟩)] wr fun e w' => e = .returned (.tuple #[.int .u8 35, .bool done]) ∧ SStepTo wr A c b mb ws' (log ++ [ac]) x.o x.t s' (.slice x.a x.s.left.length x.cp) w') :
    Calls Tryz.prog 9 #[OOPtr (some x)] wr (JStepTo R rr w wr Lo c b mb ws' (log ++ [ac]) obs k x s' done) := by
  refine (Two.call1x h (X := OO) (Φ := fun y e => y.o = x.o ∧ y.t = x.t ∧ y.s = s' ∧ e = .returned (.tuple #[.int .u8 35, .bool done])) (s' := fun y => ((ws', log ++ [ac]), obs.set k (some y))) fun A hl => ?_).mono fun e w' ⟨y, ⟨h1, h2, h3, h4⟩, h5, h6⟩ => ⟨h4, y, h1, h2, h3, h5, h6⟩
  obtain ⟨F, hl⟩ := hl
  obtain ⟨L, F2, G, hs⟩ := hl.sys
  obtain ⟨hO, hF⟩ := hl.objs k (some x) hx
  refine (hc F L F2 G hs hO (hF x.o (.inl rfl)) (fun j hj => hF j (.inr hj))).mono ?_
  rintro e w' ⟨rfl, F', a', cp', hs', hO', hkp, hf, hbl⟩
  refine ⟨⟨x.o, a', cp', x.t, s'⟩, ⟨rfl, rfl, rfl, rfl⟩, ?_⟩
  have hxz : x.o < wr.heap.size := lt_of_block (OpenAt.head hO)
  have hno : ∀ j, ¬ F j → j < wr.heap.size → ¬ F' j := fun j h1 h2 h3 => (hf j h3).elim h1 (fun e => by omega)
  obtain ⟨A', h1, h2, h3⟩ := hl.one (o' := some ⟨x.o, a', cp', x.t, s'⟩) hx hs' hO' (hkp.mono (fun j _ e => e.elim .inl (fun e => .inr (.inl e)))) hf (fun j hj => by
    rcases hj with rfl | e
    · exact ⟨hno _ (hF _ (.inl rfl)) hxz, .inl (.inl rfl)⟩
    · have e' := hbl j e
      exact ⟨hno _ (hF _ (.inr e')) (OpenAt.blk hO j e').1, .inl (.inr e')⟩)
  exact ⟨A', ⟨F', h1⟩, h2, h3⟩
theorem j_yes (h : SesG R rr w wr Lo c b mb ws log obs) (hok : c.ok) {k : Nat} {x : OO} (hx : obs[k]? = some (some x)) {j : Nat} {r : List Nat} (hl : x.s.left = j :: r) (hj : j < 64) (t0 : 0 ≤ x.t) (t1 : x.t < 64) (h0 : ws[j]? = some 0) (hlog : log.length < 1000000000000) :
    Calls Tryz.prog 9 #[OOPtr (some x)] wr (JStepTo R rr w wr Lo c b mb (ws.set j (x.t + 1)) (log ++ [⟨x.t, j, 4, 0, x.t + 1, true⟩]) obs k x ⟨[], j, x.s.err⟩ true) := by
  refine j_step h hx (ac := ⟨x.t, j, 4, 0, x.t + 1, true⟩) fun A L F G hs hO hA hB => ?_
  have hO' : OpenAt wr x.o b x.t ⟨j :: r, x.s.slot, x.s.err⟩ x.a x.cp := by
    have : x.s = ⟨j :: r, x.s.slot, x.s.err⟩ := by rw [← hl]
    rw [this] at hO; exact hO
  rw [hl] at hB ⊢
  cases r with
  | nil => exact sstep_yes0 hs hO' hA hB t0 t1 (by omega) h0 hlog
  | cons i r => exact sstep_yes1 hs (by simp) hO' hA hB t0 t1 (by omega) h0 hlog
theorem j_last (h : SesG R rr w wr Lo c b mb ws log obs) (hok : c.ok) {k : Nat} {x : OO} (hx : obs[k]? = some (some x)) {j : Nat} (hl : x.s.left = [j]) (hj : j < 64) (t0 : 0 ≤ x.t) (t1 : x.t < 64) {v : Int} (h0 : ws[j]? = some v) (hv : v ≠ 0) (hlog : log.length < 1000000000000) :
    Calls Tryz.prog 9 #[OOPtr (some x)] wr (JStepTo R rr w wr Lo c b mb ws (log ++ [⟨x.t, j, 4, v, v, false⟩]) obs k x ⟨[], x.s.slot, 10⟩ true) := by
  refine j_step h hx (ac := ⟨x.t, j, 4, v, v, false⟩) fun A L F G hs hO hA hB => ?_
  have hO' : OpenAt wr x.o b x.t ⟨[j], x.s.slot, x.s.err⟩ x.a x.cp := by
    have : x.s = ⟨[j], x.s.slot, x.s.err⟩ := by rw [← hl]
    rw [this] at hO; exact hO
  rw [hl] at hB ⊢
  exact sstep_no0 hs hO' hA hB t0 t1 (by omega) h0 (hid hv) hlog
theorem j_more (h : SesG R rr w wr Lo c b mb ws log obs) (hok : c.ok) {k : Nat} {x : OO} (hx : obs[k]? = some (some x)) {j i : Nat} {r : List Nat} (hl : x.s.left = j :: i :: r) (hj : j < 64) (t0 : 0 ≤ x.t) (t1 : x.t < 64) {v : Int} (h0 : ws[j]? = some v) (hv : v ≠ 0) (hlog : log.length < 1000000000000) :
    Calls Tryz.prog 9 #[OOPtr (some x)] wr (JStepTo R rr w wr Lo c b mb ws (log ++ [⟨x.t, j, 4, v, v, false⟩]) obs k x ⟨i :: r, x.s.slot, x.s.err⟩ false) := by
  refine j_step h hx (ac := ⟨x.t, j, 4, v, v, false⟩) fun A L F G hs hO hA hB => ?_
  have hO' : OpenAt wr x.o b x.t ⟨j :: i :: r, x.s.slot, x.s.err⟩ x.a x.cp := by
    have : x.s = ⟨j :: i :: r, x.s.slot, x.s.err⟩ := by rw [← hl]
    rw [this] at hO; exact hO
  rw [hl] at hB ⊢
  exact sstep_no1 hs (by simp) hO' hA hB t0 t1 (by omega) h0 (hid hv) hlog
end
end Go.Proofs.YtjghenomeindcaaGreat
