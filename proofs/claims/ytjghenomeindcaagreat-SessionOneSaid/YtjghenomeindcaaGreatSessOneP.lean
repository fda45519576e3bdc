/- sessions of eight threads: the owners. Plain. -/
import Derived.Test.YtjghenomeindcaaGreatInitFacts
import Derived.Test.YtjghenomeindcaaGreatSessCl
import Derived.Test.YtjghenomeindcaaGreatStoreEx
set_option linter.unusedVariables false
set_option linter.unusedSimpArgs false
namespace Go.Lf
/-- The words of the slots are the owners and one. -/
structure SO (n : Nat) (ws own : List Int) : Prop where
  len : n ≤ ws.length
  wf : ∀ x ∈ ws, 0 ≤ x ∧ x < 18446744073709551616
  on : own.length = n
  own : ∀ (j : Nat) (x : Int), own[j]? = some x → ws[j]? = some (x + 1) ∧ -1 ≤ x ∧ x < 8
theorem SO.init {c : Cfg} (h : c.ok) : SO c.sl (ints c.init) (List.replicate c.sl (-1)) := by
  have h0 := SA.init h
  refine ⟨h0.len, h0.wf, List.length_replicate, fun j x hx => ?_⟩
  obtain ⟨hj, e⟩ := List.getElem?_eq_some_iff.1 hx
  rw [List.getElem_replicate] at e
  rw [List.length_replicate] at hj
  subst e
  exact ⟨h0.hi j (by omega) hj, by omega, by omega⟩
theorem SO.list {n : Nat} {ws own : List Int} (h : SO n ws own) : (ws.take n).map ownOf = own := by
  apply List.ext_getElem?
  intro j
  rw [List.getElem?_map]
  by_cases hj : j < n
  · have hj' : j < own.length := by rw [h.on]; exact hj
    have hx : own[j]? = some own[j] := List.getElem?_eq_getElem hj'
    obtain ⟨h1, h2, h3⟩ := h.own j _ hx
    rw [List.getElem?_take_of_lt hj, h1, hx, Option.map_some, ownOf]
    split
    · congr 1; omega
    · congr 1; omega
  · have h1 : (ws.take n)[j]? = none := List.getElem?_eq_none (by rw [List.length_take]; omega)
    have h2 : own[j]? = none := List.getElem?_eq_none (by rw [h.on]; omega)
    rw [h1, h2]; rfl
theorem SO.get {n : Nat} {ws own : List Int} (h : SO n ws own) {j : Nat} (hj : j < n) : ∃ x, own[j]? = some x ∧ ws[j]? = some (x + 1) ∧ -1 ≤ x ∧ x < 8 := by
  have hj' : j < own.length := by rw [h.on]; exact hj
  exact ⟨_, List.getElem?_eq_getElem hj', h.own j _ (List.getElem?_eq_getElem hj')⟩
theorem SO.set {n : Nat} {ws own : List Int} (h : SO n ws own) {j : Nat} (hj : j < n) {x : Int} (h0 : -1 ≤ x) (h1 : x < 8) {y : Int} (hy : y = x + 1) : SO n (ws.set j y) (own.set j x) := by
  subst hy
  refine ⟨by rw [List.length_set]; exact h.len, set_wf h.wf (by omega) _, by rw [List.length_set]; exact h.on, fun i z hz => ?_⟩
  have hl := h.len
  have ho := h.on
  by_cases e : j = i
  · subst e
    rw [List.getElem?_set_self (by omega)] at hz
    cases hz
    exact ⟨List.getElem?_set_self (by omega), h0, h1⟩
  · rw [List.getElem?_set_ne e] at hz ⊢
    exact h.own i z hz
theorem SO.same {n : Nat} {ws own : List Int} (h : SO n ws own) {j : Nat} {x : Int} (hx : own[j]? = some x) : own.set j x = own := by
  apply List.ext_getElem?
  intro i
  by_cases e : j = i
  · subst e
    rw [List.getElem?_set_self (List.getElem?_eq_some_iff.1 hx).1, hx]
  · rw [List.getElem?_set_ne e]
end Go.Lf

/-! sessions of eight threads: the store and the openings, each at blocks of its own. -/
set_option linter.unusedVariables false
set_option linter.unusedSimpArgs false
namespace Go.Proofs.YtjghenomeindcaaGreat
open Go.RowKit Go.Lf
/-- An opening that was made: its block, its row, its thread, its state. -/
structure OO where
  o : Nat
  a : Option Addr
  cp : Nat
  t : Int
  s : OS
def OOPtr : Option OO → Value
  | none => .pointer none
  | some x => .pointer (some ⟨x.o, 0, none⟩)
/-- Openings as objects. -/
def OpB (b : Nat) : ObLies (Option OO) where
  at_ w x := match x with | none => True | some x => OpenAt w x.o b x.t x.s x.a x.cp
  has x k := match x with | none => False | some x => k = x.o ∨ (Value.slice x.a x.s.left.length x.cp).ownBlock = some k
  keep {w w' x S} h hk hn := by
    cases x with
    | none => trivial
    | some x => exact OpenAt.keep h hk (hn x.o (.inl rfl)) (fun k e => hn k (.inr e))
  lt {w x k} h hh := by
    cases x with
    | none => exact hh.elim
    | some x =>
      rcases hh with rfl | e
      · exact lt_of_block (OpenAt.head h)
      · exact (OpenAt.blk h k e).1
def UnitL : Lies Unit where
  lie _ A _ := ∀ k, ¬ A k
  keep h _ _ := h
  lt h k hA := (h k hA).elim
def SesL (c : Cfg) (b mb : Nat) : Lies ((List Int × List Acc) × List (Option OO)) := (StoreL c b mb).objsB (OpB b)
abbrev SesIn (w wr : World) (L : Nat → Prop) (c : Cfg) (b mb : Nat) (ws : List Int) (log : List Acc) (obs : List (Option OO)) : Prop := Two (SesL c b mb) UnitL w L ((ws, log), obs) () wr
section
variable {w wr : World} {Lo : Nat → Prop} {c : Cfg} {b mb : Nat} {ws : List Int} {log : List Acc} {obs : List (Option OO)} {t slot : Int}
theorem SesIn.sp (h : SesIn w wr Lo c b mb ws log obs) : ∃ A L F G, SP wr A c b mb L F G ws log := by
  obtain ⟨A, F, h1⟩ := h.has1
  obtain ⟨L, F2, G, hs⟩ := h1.sys
  exact ⟨_, L, F2, G, hs⟩
theorem SesIn.ob (h : SesIn w wr Lo c b mb ws log obs) {k : Nat} {x : OO} (hx : obs[k]? = some (some x)) : OpenAt wr x.o b x.t x.s x.a x.cp := by
  obtain ⟨A, F, h1⟩ := h.has1
  exact (h1.objs k (some x) hx).1
theorem j_close_state (h : SesIn w wr Lo c b mb ws log obs) (hok : c.ok) (t0 : 0 ≤ t) (t1 : t < 64) (s0 : 0 ≤ slot) (s1 : slot < c.sl) {x : Int} (hx : ws[slot.toNat]? = some x) (hne : x ≠ t + 1) : Calls Tryz.prog 12 #[.pointer (some ⟨b, 0, none⟩), .int .i64 t, .int .i64 slot] wr fun e w' => e = .returned (.int .i64 8) ∧ Keep Nil wr w' := by
  obtain ⟨A, L, F, G, hs⟩ := h.sp
  exact sclose_state hs hok t0 t1 s0 s1 hx hne
theorem j_close (h : SesIn w wr Lo c b mb ws log obs) (hok : c.ok) (t0 : 0 ≤ t) (t1 : t < 64) (s0 : 0 ≤ slot) (s1 : slot < c.sl) (hx : ws[slot.toNat]? = some (t + 1)) (hlog : log.length < 1000000000000) : Calls Tryz.prog 12 #[.pointer (some ⟨b, 0, none⟩), .int .i64 t, .int .i64 slot] wr fun e w' => e = .returned (.int .i64 0) ∧ SesIn w w' Lo c b mb (ws.set slot.toNat 0) (log ++ [⟨t, slot, 2, t + 1, 0, false⟩]) obs ∧ Keep (Out w Lo) wr w' := by
  refine Two.call1 h (Φ := fun e _ => e = .returned (.int .i64 0)) (s' := ((ws.set slot.toNat 0, log ++ [⟨t, slot, 2, t + 1, 0, false⟩]), obs)) fun A hl => ?_
  obtain ⟨F, hl⟩ := hl
  obtain ⟨L, F2, G, hs⟩ := hl.sys
  refine (sclose_ok hs hok t0 t1 s0 s1 hx hlog).mono ?_
  rintro e w' ⟨rfl, F', hs', hk, hf⟩
  obtain ⟨A', h1, h2, h3⟩ := hl.none hs' hk hf
  exact ⟨rfl, A', ⟨F', h1⟩, h2, h3⟩
theorem j_owners (h : SesIn w wr Lo c b mb ws log obs) (hok : c.ok) {own : List Int} (hso : SO c.sl ws own) : Calls Tryz.prog 13 #[.pointer (some ⟨b, 0, none⟩)] wr (OwnTo wr own) := by
  obtain ⟨A, L, F, G, hs⟩ := h.sp
  have := sowners_ok hs hok hso.len hso.wf
  rwa [hso.list] at this
/-- A new opening in the place of the old one. -/
def JNewTo (w wr : World) (Lo : Nat → Prop) (c : Cfg) (b mb : Nat) (ws : List Int) (log : List Acc) (obs : List (Option OO)) (k : Nat) (t : Int) (e : Ending) (w' : World) : Prop :=
  ∃ x : OO, x.t = t ∧ x.s = ⟨List.range c.sl, 0, 0⟩ ∧ e = .returned (.tuple #[OOPtr (some x), .int .i64 0]) ∧ SesIn w w' Lo c b mb ws log (obs.set k (some x)) ∧ Keep (Out w Lo) wr w'
theorem j_new (h : SesIn w wr Lo c b mb ws log obs) (hok : c.ok) {k : Nat} (hk : k < obs.length) (t0 : 0 ≤ t) (t1 : t < 64) : Calls Tryz.prog 8 #[.pointer (some ⟨b, 0, none⟩), .int .i64 t] wr (JNewTo w wr Lo c b mb ws log obs k t) := by
  have hkn : obs[k]? = some obs[k] := List.getElem?_eq_getElem hk
  refine (Two.call1x h (X := OO) (Φ := fun x e => x.t = t ∧ x.s = ⟨List.range c.sl, 0, 0⟩ ∧ e = .returned (.tuple #[OOPtr (some x), .int .i64 0])) (s' := fun x => ((ws, log), obs.set k (some x))) fun A hl => ?_).mono fun e w' ⟨x, ⟨h1, h2, h3⟩, h4, h5⟩ => ⟨x, h1, h2, h3, h4, h5⟩
  obtain ⟨F, hl⟩ := hl
  obtain ⟨L, F2, G, hs⟩ := hl.sys
  refine (snew_ok hs hok t t0 t1).mono ?_
  rintro e w' ⟨o, a, cp, rfl, hO, hkp, ho, hn⟩
  refine ⟨⟨o, a, cp, t, ⟨List.range c.sl, 0, 0⟩⟩, ⟨rfl, rfl, rfl⟩, ?_⟩
  have hF : ∀ j, wr.heap.size ≤ j → ¬ F j := fun j hj hFj => by have := (StoreL c b mb).lt hl.sys j hFj; omega
  obtain ⟨A', h1, h2, h3⟩ := hl.one (o' := some ⟨o, a, cp, t, ⟨List.range c.sl, 0, 0⟩⟩) hkn ((StoreL c b mb).keep hl.sys hkp (fun _ _ h => h)) hO (hkp.mono (fun _ _ h => h.elim)) (fun _ h => .inl h) (fun j hj => by
    have hj' : wr.heap.size ≤ j := by
      rcases hj with rfl | e
      · exact ho
      · exact hn j (by simpa using e)
    exact ⟨hF j hj', .inr hj'⟩)
  exact ⟨A', ⟨F, h1⟩, h2, h3⟩
/-- A step has been made. -/
def JStepTo (w wr : World) (Lo : Nat → Prop) (c : Cfg) (b mb : Nat) (ws' : List Int) (n : Nat) (obs : List (Option OO)) (k : Nat) (x : OO) (s' : OS) (done : Bool) (e : Ending) (w' : World) : Prop :=
  e = .returned (.tuple #[.int .u8 35, .bool done]) ∧ ∃ (y : OO) (log' : List Acc), y.o = x.o ∧ y.t = x.t ∧ y.s = s' ∧ log'.length = n + 1 ∧ SesIn w w' Lo c b mb ws' log' (obs.set k (some y)) ∧ Keep (Out w Lo) wr w'
theorem j_step (h : SesIn w wr Lo c b mb ws log obs) {k : Nat} {x : OO} (hx : obs[k]? = some (some x)) {ws' : List Int} {s' : OS} {done : Bool} {ac : Acc}
    (hc : ∀ A L F G, SP wr A c b mb L F G ws log → OpenAt wr x.o b x.t x.s x.a x.cp → ¬ A x.o → (∀ j, (Value.slice x.a x.s.left.length x.cp).ownBlock = some j → ¬ A j) →
      Calls Tryz.prog 9 #[.pointer (some ⟨x.o, 0, none⟩)] wr fun e w' => e = .returned (.tuple #[.int .u8 35, .bool done]) ∧ SStepTo wr A c b mb ws' (log ++ [ac]) x.o x.t s' (.slice x.a x.s.left.length x.cp) w') :
    Calls Tryz.prog 9 #[OOPtr (some x)] wr (JStepTo w wr Lo c b mb ws' log.length obs k x s' done) := by
  refine (Two.call1x h (X := OO) (Φ := fun y e => y.o = x.o ∧ y.t = x.t ∧ y.s = s' ∧ e = .returned (.tuple #[.int .u8 35, .bool done])) (s' := fun y => ((ws', log ++ [ac]), obs.set k (some y))) fun A hl => ?_).mono fun e w' ⟨y, ⟨h1, h2, h3, h4⟩, h5, h6⟩ => ⟨h4, y, log ++ [ac], h1, h2, h3, by simp, h5, h6⟩
  obtain ⟨F, hl⟩ := hl
  obtain ⟨L, F2, G, hs⟩ := hl.sys
  obtain ⟨hO, hF⟩ := hl.objs k (some x) hx
  refine (hc F L F2 G hs hO (hF x.o (.inl rfl)) (fun j hj => hF j (.inr hj))).mono ?_
  rintro e w' ⟨rfl, F', a', cp', hs', hO', hkp, hf, hbl⟩
  refine ⟨⟨x.o, a', cp', x.t, s'⟩, ⟨rfl, rfl, rfl, rfl⟩, ?_⟩
  have hxz : x.o < wr.heap.size := lt_of_block (OpenAt.head hO)
  have hno : ∀ j, ¬ F j → j < wr.heap.size → ¬ F' j := fun j h1 h2 h3 => (hf j h3).elim h1 (fun e => by omega)
  obtain ⟨A', h1, h2, h3⟩ := hl.one (o' := some ⟨x.o, a', cp', x.t, s'⟩) hx hs' hO' (hkp.mono (fun j _ e => e.elim .inl (fun e => .inr (.inl e)))) hf (fun j hj => by
    rcases hj with rfl | e
    · exact ⟨hno _ (hF _ (.inl rfl)) hxz, .inl (.inl rfl)⟩
    · have e' := hbl j e
      exact ⟨hno _ (hF _ (.inr e')) (OpenAt.blk hO j e').1, .inl (.inr e')⟩)
  exact ⟨A', ⟨F', h1⟩, h2, h3⟩
theorem j_yes (h : SesIn w wr Lo c b mb ws log obs) (hok : c.ok) {k : Nat} {x : OO} (hx : obs[k]? = some (some x)) {j : Nat} {r : List Nat} (hl : x.s.left = j :: r) (hj : j < 64) (t0 : 0 ≤ x.t) (t1 : x.t < 64) (h0 : ws[j]? = some 0) (hlog : log.length < 1000000000000) :
    Calls Tryz.prog 9 #[OOPtr (some x)] wr (JStepTo w wr Lo c b mb (ws.set j (x.t + 1)) log.length obs k x ⟨[], j, x.s.err⟩ true) := by
  refine j_step h hx (ac := ⟨x.t, j, 4, 0, x.t + 1, true⟩) fun A L F G hs hO hA hB => ?_
  have hO' : OpenAt wr x.o b x.t ⟨j :: r, x.s.slot, x.s.err⟩ x.a x.cp := by
    have : x.s = ⟨j :: r, x.s.slot, x.s.err⟩ := by rw [← hl]
    rw [this] at hO; exact hO
  rw [hl] at hB ⊢
  cases r with
  | nil => exact sstep_yes0 hs hO' hA hB t0 t1 (by omega) h0 hlog
  | cons i r => exact sstep_yes1 hs (by simp) hO' hA hB t0 t1 (by omega) h0 hlog
theorem j_last (h : SesIn w wr Lo c b mb ws log obs) (hok : c.ok) {k : Nat} {x : OO} (hx : obs[k]? = some (some x)) {j : Nat} (hl : x.s.left = [j]) (hj : j < 64) (t0 : 0 ≤ x.t) (t1 : x.t < 64) {v : Int} (h0 : ws[j]? = some v) (hv : v ≠ 0) (hlog : log.length < 1000000000000) :
    Calls Tryz.prog 9 #[OOPtr (some x)] wr (JStepTo w wr Lo c b mb ws log.length obs k x ⟨[], x.s.slot, 10⟩ true) := by
  refine j_step h hx (ac := ⟨x.t, j, 4, v, v, false⟩) fun A L F G hs hO hA hB => ?_
  have hO' : OpenAt wr x.o b x.t ⟨[j], x.s.slot, x.s.err⟩ x.a x.cp := by
    have : x.s = ⟨[j], x.s.slot, x.s.err⟩ := by rw [← hl]
    rw [this] at hO; exact hO
  rw [hl] at hB ⊢
  exact sstep_no0 hs hO' hA hB t0 t1 (by omega) h0 (hid hv) hlog
theorem j_more (h : SesIn w wr Lo c b mb ws log obs) (hok : c.ok) {k : Nat} {x : OO} (hx : obs[k]? = some (some x)) {j i : Nat} {r : List Nat} (hl : x.s.left = j :: i :: r) (hj : j < 64) (t0 : 0 ≤ x.t) (t1 : x.t < 64) {v : Int} (h0 : ws[j]? = some v) (hv : v ≠ 0) (hlog : log.length < 1000000000000) :
    Calls Tryz.prog 9 #[OOPtr (some x)] wr (JStepTo w wr Lo c b mb ws log.length obs k x ⟨i :: r, x.s.slot, x.s.err⟩ false) := by
  refine j_step h hx (ac := ⟨x.t, j, 4, v, v, false⟩) fun A L F G hs hO hA hB => ?_
  have hO' : OpenAt wr x.o b x.t ⟨j :: i :: r, x.s.slot, x.s.err⟩ x.a x.cp := by
    have : x.s = ⟨j :: i :: r, x.s.slot, x.s.err⟩ := by rw [← hl]
    rw [this] at hO; exact hO
  rw [hl] at hB ⊢
  exact sstep_no1 hs (by simp) hO' hA hB t0 t1 (by omega) h0 (hid hv) hlog
end
end Go.Proofs.YtjghenomeindcaaGreat

/-! SessionOne: each slot is had by nobody or by the one thread whose opening got it last and that has not closed it since. -/
set_option linter.unusedVariables false
set_option linter.unusedSimpArgs false
namespace Go.Proofs.YtjghenomeindcaaGreat
open Go.RowKit Go.Lf
attribute [local go_sem] fldc
/-- The openings as cells. -/
def obsV (obs : List (Option OO)) : Array Value := (obs.map OOPtr).toArray
theorem obsV_at {w : World} {hb : Nat} {obs : List (Option OO)} (h : w.heap[hb]? = some (.cells (obsV obs) 22 (0, 0))) {k : Nat} {x : Option OO} (hx : obs[k]? = some x) : w.cell? ⟨hb, k, none⟩ = some (OOPtr x) := by
  rw [cell_of h]; simp [obsV, hx]
theorem obsV_set (obs : List (Option OO)) (k : Nat) (x : Option OO) : (obsV obs).setIfInBounds k (OOPtr x) = obsV (obs.set k x) := by simp [obsV, List.map_set]
theorem own_at {w : World} {gb : Nat} {own : List Int} (h : w.heap[gb]? = some (.cells (i64s own).toArray 3 (0, 0))) {k : Nat} {x : Int} (hx : own[k]? = some x) : w.cell? ⟨gb, k, none⟩ = some (.int .i64 x) := by
  rw [cell_of h]; simp [i64s, hx]
def ObOk (n : Nat) (obs : List (Option OO)) : Prop := obs.length = 8 ∧ ∀ (k : Nat) (x : OO), obs[k]? = some (some x) → x.t = k ∧ (∀ j ∈ x.s.left, j < n) ∧ (x.s.left ≠ [] → x.s.err = 0)
theorem ObOk.set {n : Nat} {obs : List (Option OO)} (h : ObOk n obs) {k : Nat} {y : OO} (h1 : y.t = k) (h2 : ∀ j ∈ y.s.left, j < n) (h3 : y.s.left ≠ [] → y.s.err = 0) : ObOk n (obs.set k (some y)) := by
  refine ⟨by rw [List.length_set]; exact h.1, fun i x hx => ?_⟩
  rcases set_cases hx with ⟨i1, i2⟩ | ⟨i1, i2⟩
  · cases i2; subst i1; exact ⟨h1, h2, h3⟩
  · exact h.2 i x i2
theorem SesIn.start {w w3 wr : World} {c : Cfg} {b mb : Nat} {ws : List Int} {log : List Acc} (h : SW w w3 c b mb ws log) (hk : Keep Nil w3 wr) {Lo : Nat → Prop} (hL : ∀ k, Lo k → w3.heap.size ≤ k ∧ k < wr.heap.size) : SesIn w wr Lo c b mb ws log (List.replicate 8 none) := by
  obtain ⟨⟨A, h1, h2⟩, h3⟩ := h
  have hz := h3.size
  have hno : ∀ (i : Nat) (o : Option OO), (List.replicate 8 none)[i]? = some o → o = none := fun i o ho => by
    obtain ⟨hi, e⟩ := List.getElem?_eq_some_iff.1 ho
    rw [List.getElem_replicate] at e; exact e.symm
  refine ⟨⟨A, Nil, ⟨A, ⟨(StoreL c b mb).keep h1 hk (fun _ _ h => h), fun i o ho => ?_, fun i j o p k ho hp hh _ => ?_, fun k => ⟨.inl, fun e => ?_⟩⟩⟩, fun _ h => h, fun k hA => ⟨fun h => h, fun hl => ?_, h2 k hA⟩, fun k h => h.elim⟩, fun k hl => ⟨(hL k hl).2, by have := (hL k hl).1; omega⟩, h3.trans hk (fun _ _ h => h)⟩
  · cases hno i o ho; exact ⟨trivial, fun k hh => hh.elim⟩
  · cases hno i o ho; exact hh.elim
  · rcases e with e | ⟨i, o, ho, hh⟩
    · exact e
    · cases hno i o ho; exact hh.elim
  · have := (StoreL c b mb).lt h1 k hA; have := (hL k hl).1; omega
theorem SesIn.loc {w wr w' : World} {c : Cfg} {b mb : Nat} {ws : List Int} {log : List Acc} {obs : List (Option OO)} {Lo : Nat → Prop} (h : SesIn w wr Lo c b mb ws log obs) (hk : Keep Lo wr w') : SesIn w w' Lo c b mb ws log obs := Two.loc h hk (fun k hk => .inl hk)
/-- Where the walk stands: its two blocks. -/
structure OneAt (w wr : World) (c : Cfg) (b mb gb hb : Nat) (own : List Int) (obs : List (Option OO)) (n : Nat) : Prop where
  ses : ∃ ws log, SesIn w wr (fun k => k = gb ∨ k = hb) c b mb ws log obs ∧ SO c.sl ws own ∧ log.length ≤ n
  g : wr.heap[gb]? = some (.cells (i64s own).toArray 3 (0, 0))
  h : wr.heap[hb]? = some (.cells (obsV obs) 22 (0, 0))
  ok : ObOk c.sl obs
section
variable {w wr w' : World} {c : Cfg} {b mb gb hb n : Nat} {own own' : List Int} {obs obs' : List (Option OO)} {ws : List Int} {log : List Acc}
theorem OneAt.kp (h : OneAt w wr c b mb gb hb own obs n) : Keep Nil w wr := by obtain ⟨ws, log, hs, -⟩ := h.ses; exact hs.own
theorem OneAt.quiet (h : OneAt w wr c b mb gb hb own obs n) (hk : Keep Nil wr w') : OneAt w w' c b mb gb hb own obs n := by
  obtain ⟨ws, log, hs, h1, h2⟩ := h.ses
  exact ⟨⟨ws, log, Two.quiet hs hk, h1, h2⟩, hk.at h.g (fun h => h), hk.at h.h (fun h => h), h.ok⟩
/-- A call has turned the store and the openings. -/
theorem OneAt.turn (h : OneAt w wr c b mb gb hb own obs n) {obs' : List (Option OO)} {ws' : List Int} {log' : List Acc} {own' : List Int} {n' : Nat} (hs : SesIn w w' (fun k => k = gb ∨ k = hb) c b mb ws' log' obs') (hk : Keep (Out w fun k => k = gb ∨ k = hb) wr w') :
    w'.heap[gb]? = some (.cells (i64s own).toArray 3 (0, 0)) ∧ w'.heap[hb]? = some (.cells (obsV obs) 22 (0, 0)) :=
  ⟨Keep.loc hk h.g (.inl rfl), Keep.loc hk h.h (.inr rfl)⟩
theorem k_owners (h : OneAt w wr c b mb gb hb own obs n) (hok : c.ok) : Calls Tryz.prog 13 #[.pointer (some ⟨b, 0, none⟩)] wr (OwnTo wr own) := by
  obtain ⟨ws, log, hs, h1, h2⟩ := h.ses
  exact j_owners hs hok h1
theorem k_close_state (h : OneAt w wr c b mb gb hb own obs n) (hok : c.ok) {j : Nat} {y t : Int} (hy : own[j]? = some y) (t0 : 0 ≤ t) (t1 : t < 64) (hne : y ≠ t) : Calls Tryz.prog 12 #[.pointer (some ⟨b, 0, none⟩), .int .i64 t, .int .i64 (j : Int)] wr fun e w' => e = .returned (.int .i64 8) ∧ Keep Nil wr w' := by
  obtain ⟨ws, log, hs, h1, h2⟩ := h.ses
  have hj : j < c.sl := by have := (List.getElem?_eq_some_iff.1 hy).1; have := h1.on; omega
  exact j_close_state hs hok t0 t1 (by omega) (by omega) (x := y + 1) (by rw [Int.toNat_natCast]; exact (h1.own j y hy).1) (by omega)
/-- A slot has been closed; the walk's row has not been changed yet. -/
structure OneGone (w wr : World) (c : Cfg) (b mb gb hb : Nat) (own : List Int) (own' : List Int) (obs obs' : List (Option OO)) (n : Nat) : Prop where
  ses : ∃ ws log, SesIn w wr (fun k => k = gb ∨ k = hb) c b mb ws log obs' ∧ SO c.sl ws own' ∧ log.length ≤ n
  g : wr.heap[gb]? = some (.cells (i64s own).toArray 3 (0, 0))
  h : wr.heap[hb]? = some (.cells (obsV obs) 22 (0, 0))
  ok : ObOk c.sl obs'
theorem k_close (h : OneAt w wr c b mb gb hb own obs n) (hok : c.ok) {j : Nat} {y : Int} (hy : own[j]? = some y) (y0 : 0 ≤ y) (hn : n < 100000) : Calls Tryz.prog 12 #[.pointer (some ⟨b, 0, none⟩), .int .i64 y, .int .i64 (j : Int)] wr fun e w' => e = .returned (.int .i64 0) ∧ OneGone w w' c b mb gb hb own (own.set j (-1)) obs obs (n + 1) := by
  obtain ⟨ws, log, hs, h1, h2⟩ := h.ses
  have hj : j < c.sl := by have := (List.getElem?_eq_some_iff.1 hy).1; have := h1.on; omega
  obtain ⟨e1, e2, e3⟩ := h1.own j y hy
  refine (j_close hs hok (t := y) (slot := (j : Int)) y0 (by omega) (by omega) (by omega) (by rw [Int.toNat_natCast]; exact e1) (by omega)).mono ?_
  rintro e w' ⟨rfl, hs', hk⟩
  rw [Int.toNat_natCast] at hs'
  exact ⟨rfl, ⟨_, _, hs', h1.set hj (by omega) (by omega) (by omega), by simp; omega⟩, Keep.loc hk h.g (.inl rfl), Keep.loc hk h.h (.inr rfl), h.ok⟩
theorem OneGone.set (h : OneGone w wr c b mb gb hb own own' obs obs' n) {j : Nat} {x : Int} (he : own' = own.set j x) (hobs : obs' = obs) : OneAt w (wr.setCell ⟨gb, j, none⟩ (.int .i64 x)) c b mb gb hb own' obs' n := by
  obtain ⟨ws, log, hs, h1, h2⟩ := h.ses
  have hk : Keep (fun k => k = gb ∨ k = hb) wr (wr.setCell ⟨gb, j, none⟩ (.int .i64 x)) := (Keep.refl _ wr).setCell (.inl (.inl rfl)) _
  have hg : (wr.setCell ⟨gb, j, none⟩ (.int .i64 x)).heap[gb]? = _ := set_same h.g _
  refine ⟨⟨ws, log, hs.loc hk, h1, h2⟩, by rw [hg, i64s_set, he], ?_, h.ok⟩
  have hne : hb ≠ gb := ty_ne h.h h.g (by decide)
  rw [set_other h.h hne, hobs]
theorem OneGone.kp (h : OneGone w wr c b mb gb hb own own' obs obs' n) : Keep Nil w wr := by obtain ⟨ws, log, hs, -⟩ := h.ses; exact hs.own
theorem OneGone.quiet (h : OneGone w wr c b mb gb hb own own' obs obs' n) (hk : Keep Nil wr w') : OneGone w w' c b mb gb hb own own' obs obs' n := by
  obtain ⟨ws, log, hs, h1, h2⟩ := h.ses
  exact ⟨⟨ws, log, Two.quiet hs hk, h1, h2⟩, hk.at h.g (fun h => h), hk.at h.h (fun h => h), h.ok⟩
theorem OneGone.put (h : OneGone w wr c b mb gb hb own own obs obs' n) {k : Nat} {x : Option OO} (he : obs' = obs.set k x) : OneAt w (wr.setCell ⟨hb, k, none⟩ (OOPtr x)) c b mb gb hb own obs' n := by
  obtain ⟨ws, log, hs, h1, h2⟩ := h.ses
  have hk : Keep (fun k => k = gb ∨ k = hb) wr (wr.setCell ⟨hb, k, none⟩ (OOPtr x)) := (Keep.refl _ wr).setCell (.inl (.inr rfl)) _
  have hg : (wr.setCell ⟨hb, k, none⟩ (OOPtr x)).heap[hb]? = _ := set_same h.h _
  have hne : gb ≠ hb := ty_ne h.g h.h (by decide)
  exact ⟨⟨ws, log, hs.loc hk, h1, h2⟩, set_other h.g hne _, by rw [hg, obsV_set, he], h.ok⟩
theorem OneAt.ob (h : OneAt w wr c b mb gb hb own obs n) {k : Nat} {x : OO} (hx : obs[k]? = some (some x)) : OpenAt wr x.o b x.t x.s x.a x.cp := by
  obtain ⟨ws, log, hs, -⟩ := h.ses
  exact hs.ob hx
theorem OneGone.ob (h : OneGone w wr c b mb gb hb own own' obs obs' n) {k : Nat} {x : OO} (hx : obs'[k]? = some (some x)) : OpenAt wr x.o b x.t x.s x.a x.cp := by
  obtain ⟨ws, log, hs, -⟩ := h.ses
  exact hs.ob hx
def KNewTo (w : World) (c : Cfg) (b mb gb hb : Nat) (own : List Int) (obs : List (Option OO)) (n k : Nat) (e : Ending) (w' : World) : Prop :=
  ∃ x : OO, x.t = k ∧ x.s = ⟨List.range c.sl, 0, 0⟩ ∧ e = .returned (.tuple #[.pointer (some ⟨x.o, 0, none⟩), .int .i64 0]) ∧ OneGone w w' c b mb gb hb own own obs (obs.set k (some x)) n
theorem k_new (h : OneAt w wr c b mb gb hb own obs n) (hok : c.ok) {k : Nat} (hk : k < 8) : Calls Tryz.prog 8 #[.pointer (some ⟨b, 0, none⟩), .int .i64 (k : Int)] wr (KNewTo w c b mb gb hb own obs n k) := by
  obtain ⟨ws, log, hs, h1, h2⟩ := h.ses
  refine (j_new hs hok (k := k) (by rw [h.ok.1]; exact hk) (t := (k : Int)) (by omega) (by omega)).mono ?_
  rintro e w' ⟨x, hxt, hxs, rfl, hs', hkp⟩
  exact ⟨x, hxt, hxs, rfl, ⟨_, _, hs', h1, h2⟩, Keep.loc hkp h.g (.inl rfl), Keep.loc hkp h.h (.inr rfl), h.ok.set hxt (by rw [hxs]; exact fun j hj => List.mem_range.1 hj) (by rw [hxs]; exact fun _ => rfl)⟩
theorem obsV_same {obs : List (Option OO)} {k : Nat} {x y : OO} (hx : obs[k]? = some (some x)) (hy : y.o = x.o) : obsV (obs.set k (some y)) = obsV obs := by
  unfold obsV
  congr 1
  apply List.ext_getElem?
  intro i
  rw [List.getElem?_map, List.getElem?_map]
  by_cases e : k = i
  · subst e
    rw [List.getElem?_set_self (List.getElem?_eq_some_iff.1 hx).1, hx]
    simp [OOPtr, hy]
  · rw [List.getElem?_set_ne e]
def KYesTo (w : World) (c : Cfg) (b mb gb hb : Nat) (own : List Int) (obs : List (Option OO)) (n k j : Nat) (e : Ending) (w' : World) : Prop :=
  e = .returned (.tuple #[.int .u8 35, .bool true]) ∧ ∃ y : OO, y.o = (match obs[k]? with | some (some x) => x.o | _ => 0) ∧ y.s = ⟨[], j, 0⟩ ∧ OneGone w w' c b mb gb hb own (own.set j k) (obs.set k (some y)) (obs.set k (some y)) (n + 1)
theorem k_yes (h : OneAt w wr c b mb gb hb own obs n) (hok : c.ok) (hn : n < 100000) {k : Nat} {x : OO} (hk : k < 8) (hx : obs[k]? = some (some x)) {j : Nat} {r : List Nat} (hl : x.s.left = j :: r) (hj : own[j]? = some (-1)) :
    Calls Tryz.prog 9 #[.pointer (some ⟨x.o, 0, none⟩)] wr (KYesTo w c b mb gb hb own obs n k j) := by
  obtain ⟨ws, log, hs, h1, h2⟩ := h.ses
  obtain ⟨a1, a2, a3⟩ := h.ok.2 k x hx
  have hjn : j < c.sl := a2 j (by rw [hl]; exact List.mem_cons_self ..)
  have he : x.s.err = 0 := a3 (by rw [hl]; simp)
  obtain ⟨e1, e2, e3⟩ := h1.own j _ hj
  have hsl := hok.sl2
  refine (j_yes hs hok hx hl (by omega) (by omega) (by omega) e1 (by omega)).mono ?_
  rintro e w' ⟨rfl, y, log', hyo, hyt, hys, hlen, hs', hkp⟩
  refine ⟨rfl, y, by rw [hx]; exact hyo, by rw [hys, he], ⟨_, _, hs', ?_, by omega⟩, Keep.loc hkp h.g (.inl rfl), by rw [obsV_same hx hyo]; exact Keep.loc hkp h.h (.inr rfl), h.ok.set (by rw [hyt, a1]) (by rw [hys]; exact fun j hj => (List.not_mem_nil hj).elim) (by rw [hys]; exact fun h => (h rfl).elim)⟩
  exact h1.set hjn (by omega) (by omega) (by rw [a1])
def KNoTo (w : World) (c : Cfg) (b mb gb hb : Nat) (own : List Int) (obs : List (Option OO)) (n k : Nat) (x : OO) (s' : OS) (done : Bool) (e : Ending) (w' : World) : Prop :=
  e = .returned (.tuple #[.int .u8 35, .bool done]) ∧ ∃ y : OO, y.o = x.o ∧ y.s = s' ∧ OneAt w w' c b mb gb hb own (obs.set k (some y)) (n + 1)
theorem k_last (h : OneAt w wr c b mb gb hb own obs n) (hok : c.ok) (hn : n < 100000) {k : Nat} {x : OO} (hk : k < 8) (hx : obs[k]? = some (some x)) {j : Nat} (hl : x.s.left = [j]) {v : Int} (hj : own[j]? = some v) (hv : v ≠ -1) :
    Calls Tryz.prog 9 #[.pointer (some ⟨x.o, 0, none⟩)] wr (KNoTo w c b mb gb hb own obs n k x ⟨[], x.s.slot, 10⟩ true) := by
  obtain ⟨ws, log, hs, h1, h2⟩ := h.ses
  obtain ⟨a1, a2, a3⟩ := h.ok.2 k x hx
  have hjn : j < c.sl := a2 j (by rw [hl]; exact List.mem_cons_self ..)
  obtain ⟨e1, e2, e3⟩ := h1.own j _ hj
  have hsl := hok.sl2
  refine (j_last hs hok hx hl (by omega) (by omega) (by omega) e1 (by omega) (by omega)).mono ?_
  rintro e w' ⟨rfl, y, log', hyo, hyt, hys, hlen, hs', hkp⟩
  exact ⟨rfl, y, hyo, hys, ⟨_, _, hs', h1, by omega⟩, Keep.loc hkp h.g (.inl rfl), by rw [obsV_same hx hyo]; exact Keep.loc hkp h.h (.inr rfl), h.ok.set (by rw [hyt, a1]) (by rw [hys]; exact fun j hj => (List.not_mem_nil hj).elim) (by rw [hys]; exact fun h => (h rfl).elim)⟩
theorem k_more (h : OneAt w wr c b mb gb hb own obs n) (hok : c.ok) (hn : n < 100000) {k : Nat} {x : OO} (hk : k < 8) (hx : obs[k]? = some (some x)) {j i : Nat} {r : List Nat} (hl : x.s.left = j :: i :: r) {v : Int} (hj : own[j]? = some v) (hv : v ≠ -1) :
    Calls Tryz.prog 9 #[.pointer (some ⟨x.o, 0, none⟩)] wr (KNoTo w c b mb gb hb own obs n k x ⟨i :: r, x.s.slot, x.s.err⟩ false) := by
  obtain ⟨ws, log, hs, h1, h2⟩ := h.ses
  obtain ⟨a1, a2, a3⟩ := h.ok.2 k x hx
  have hjn : j < c.sl := a2 j (by rw [hl]; exact List.mem_cons_self ..)
  have he : x.s.err = 0 := a3 (by rw [hl]; simp)
  obtain ⟨e1, e2, e3⟩ := h1.own j _ hj
  have hsl := hok.sl2
  refine (j_more hs hok hx hl (by omega) (by omega) (by omega) e1 (by omega) (by omega)).mono ?_
  rintro e w' ⟨rfl, y, log', hyo, hyt, hys, hlen, hs', hkp⟩
  exact ⟨rfl, y, hyo, hys, ⟨_, _, hs', h1, by omega⟩, Keep.loc hkp h.g (.inl rfl), by rw [obsV_same hx hyo]; exact Keep.loc hkp h.h (.inr rfl), h.ok.set (by rw [hyt, a1]) (by rw [hys]; exact fun q hq => a2 q (by rw [hl]; exact List.mem_cons_of_mem _ hq)) (by rw [hys]; exact fun _ => he)⟩
end
end Go.Proofs.YtjghenomeindcaaGreat

/-! SessionOne: each slot is had by nobody or by the one thread whose opening got it last and that has not closed it since. -/
set_option linter.unusedVariables false
set_option linter.unusedSimpArgs false
namespace Go.Proofs.YtjghenomeindcaaGreat
open Go.RowKit Go.Lf
attribute [local go_sem] fldc
section
variable {w wr w' : World} {c : Cfg} {b mb gb hb n : Nat} {own own' : List Int} {obs obs' : List (Option OO)}
theorem k_res (h : OneGone w wr c b mb gb hb own own' obs obs' n) {k : Nat} {y : OO} (hy : obs'[k]? = some (some y)) {j err : Int} (hs : y.s = ⟨[], j, err⟩) : Calls Tryz.prog 10 #[.pointer (some ⟨y.o, 0, none⟩)] wr fun e w' => e = .returned (.tuple #[.int .i64 j, .int .i64 err]) ∧ Keep Nil wr w' := by
  have hO := h.ob hy
  rw [hs] at hO
  exact sres_done _ (s := ⟨[], j, err⟩) hO rfl
theorem k_res' (h : OneAt w wr c b mb gb hb own obs n) {k : Nat} {y : OO} (hy : obs[k]? = some (some y)) {j err : Int} (hs : y.s = ⟨[], j, err⟩) : Calls Tryz.prog 10 #[.pointer (some ⟨y.o, 0, none⟩)] wr fun e w' => e = .returned (.tuple #[.int .i64 j, .int .i64 err]) ∧ Keep Nil wr w' := by
  have hO := h.ob hy
  rw [hs] at hO
  exact sres_done _ (s := ⟨[], j, err⟩) hO rfl
theorem OneAt.gone (h : OneAt w wr c b mb gb hb own obs n) : OneGone w wr c b mb gb hb own own obs obs (n + 1) := by
  obtain ⟨ws, log, hs, h1, h2⟩ := h.ses
  exact ⟨⟨ws, log, hs, h1, by omega⟩, h.g, h.h, h.ok⟩
theorem OneAt.more (h : OneAt w wr c b mb gb hb own obs n) {m : Nat} (hm : n ≤ m) : OneAt w wr c b mb gb hb own obs m := by
  obtain ⟨ws, log, hs, h1, h2⟩ := h.ses
  exact ⟨⟨ws, log, hs, h1, by omega⟩, h.g, h.h, h.ok⟩
theorem OneAt.on (h : OneAt w wr c b mb gb hb own obs n) : own.length = c.sl := by
  obtain ⟨ws, log, hs, h1, h2⟩ := h.ses
  exact h1.on
theorem OneAt.get (h : OneAt w wr c b mb gb hb own obs n) {j : Nat} (hj : j < c.sl) : ∃ x, own[j]? = some x ∧ -1 ≤ x ∧ x < 8 := by
  obtain ⟨ws, log, hs, h1, h2⟩ := h.ses
  obtain ⟨x, e1, e2, e3, e4⟩ := h1.get hj
  exact ⟨x, e1, e3, e4⟩
theorem OneAt.obj (h : OneAt w wr c b mb gb hb own obs n) {k : Nat} (hk : k < 8) : ∃ x, obs[k]? = some x := ⟨_, List.getElem?_eq_getElem (by have := h.ok.1; omega)⟩
end
set_option maxRecDepth 100000 in
set_option maxHeartbeats 16000000 in
theorem walk_sone (w : World) (z : ConfV) (hz : ConfArg w z) (v : Value) (zs : List Int) (hrd : Rd w 1 v zs.length (zs.map (Value.int .i64))) (hwf : ∀ n ∈ zs, (Lit.int .i64 n).wf = true) (hm : zs.length ≤ maxLen) :
    Calls Tryz.prog 4 #[z.val, v] w fun e w' => e = .returned (.bool true) ∧ Keep Nil w w' := by
  obtain ⟨va, vc, rfl, -, -⟩ := id hrd
  have HZ := hid hz
  have HRD := hid hrd
  have HWF := hid hwf
  have hmk := make_int z.c.sl (by have := z.sl_rng.2; omega)
  have hmk8 : ∀ w : World, (Instr.makeSlice 58 (.int .i64 8) (.int .i64 8)).run Tryz.prog w = .ok (.slice (some ⟨w.heap.size, 0, none⟩) 8 8) (w.alloc (.cells (obsV [none, none, none, none, none, none, none, none]) 22)) := fun _ => by kernel_rfl
  have HC := hid z.ok
  have sl1 := z.sl_rng.1
  have sl5 := z.sl_rng.2
  clear hz hrd hwf
  unfold ConfV.val
  go_enter Tryz.func4, Tryz.ntmps4
  go_wp2_with fail
  refine (small_ok z (HZ.out.keep ((Keep.refl Nil w).alloc _))).mono ?_
  rintro e w1 ⟨a1, cp1, rfl, hr1, hk1, -⟩
  have hb1 := hk1.at (heap_alloc_new w _) (fun h => h)
  have HB1 := hid hb1
  have HR1 := hid hr1
  have HK1 := hid (show Keep Nil w w1 from ((Keep.refl Nil w).alloc _).trans hk1 (fun _ _ h => h))
  clear hb1 hr1 hk1
  go_wp2_with fail
  refine (small_new z HR1.out).mono ?_
  rintro e w2 hnew
  have hkn : Keep Nil w1 w2 := by
    obtain ⟨_, _, _, _, _, h, _⟩ := hnew
    exact h
  have hb2 := hkn.at HB1.out (fun h => h)
  obtain ⟨b, mb, rfl, hs⟩ := SW.new HK1.out hnew
  obtain ⟨q0, q1, q2, q3, q4, q5, q6, q7, q8, q9, q10, q11, q12, q13, q14, q15⟩ := bx16 hb2
  have hz2 : w.heap.size < w2.heap.size := lt_of_block hb2
  have HS := hid hs
  obtain ⟨V1, hV1⟩ : ∃ V : Value, V = cfgV z.c (z.t1 % 7).toNat (z.t2 % 7).toNat (z.t3 % 7).toNat (z.t4 % 7).toNat (z.t5 % 7).toNat (z.t6 % 7).toNat a1 cp1 := ⟨_, rfl⟩
  rw [← hV1]
  clear hV1 hnew hs hb2 HB1 HR1 hkn
  go_wp2_with fail
  refine (small_ok z (HZ.out.keep HS.out.own)).mono ?_
  rintro e w3 ⟨a2, cp2, rfl, -, hk3, -⟩
  have HS3 := hid (HS.out.quiet hk3)
  clear q0 q1 q2 q3 q4 q5 q6 q7 q8 q9 q10 q11 q12 q13 q14 q15 hk3 HS hz2
  go_wp2_with fail
  obtain ⟨V2, hV2⟩ : ∃ V : Value, V = cfgV z.c (z.t1 % 7).toNat (z.t2 % 7).toNat (z.t3 % 7).toNat (z.t4 % 7).toNat (z.t5 % 7).toNat (z.t6 % 7).toNat a2 cp2 := ⟨_, rfl⟩
  rw [← hV2]
  clear hV2 HZ hmk
  generalize z.c = c at *
  have hkr : Keep Nil w3 (w3.alloc (.cells (Array.replicate c.sl (Value.int .i64 0)) 3)) := (Keep.refl Nil w3).alloc _
  have hbr := heap_alloc_new w3 (.cells (Array.replicate c.sl (Value.int .i64 0)) 3)
  obtain ⟨W0, hW0⟩ : ∃ W, W = w3.alloc (.cells (Array.replicate c.sl (Value.int .i64 0)) 3) := ⟨_, rfl⟩
  rw [← hW0] at hkr hbr ⊢
  have HKR := hid hkr
  have HBR := hid hbr
  obtain ⟨gb, hgb⟩ : ∃ g, g = w3.heap.size := ⟨_, rfl⟩
  rw [← hgb]
  have HGB := hid hgb
  clear hW0 hkr hbr hgb
  go_loopw [8] (fun i wr => ∃ k : Nat, k ≤ c.sl ∧ i = .int .i64 k ∧ wr.heap[gb]? = some (.cells (i64s (List.replicate k (-1) ++ List.replicate (c.sl - k) 0)).toArray 3 (0, 0)) ∧ Keep Nil w3 wr) (fun i _ => c.sl - (intOf i).toNat)
  case atStart => exact ⟨0, Nat.zero_le _, rfl, by rw [HGB.out, HBR.out]; simp [i64s], HKR.out⟩
  case round =>
    obtain ⟨k, hk, rfl, hr, hkw⟩ := hrel
    have HKW := hid hkw
    clear hkw
    by_cases hlt : k < c.sl
    · have dk : decide ((k : Int) < (c.sl : Int)) = true := decide_eq_true (by omega)
      have k0 : (0 : Int) ≤ (k : Int) := by omega
      have k1 : (k : Int) < (c.sl : Int) := by omega
      have wk : IntKind.i64.wrap ((k : Int) + 1) = (k : Int) + 1 := by rw [IntKind.wrap_i64]; omega
      obtain ⟨l, hl⟩ : ∃ l, l = List.replicate k (-1 : Int) ++ List.replicate (c.sl - k) 0 := ⟨_, rfl⟩
      have hlen' : l.length = c.sl := by rw [hl, List.length_append, List.length_replicate, List.length_replicate]; omega
      have hnext : List.replicate (k + 1) (-1 : Int) ++ List.replicate (c.sl - (k + 1)) 0 = l.set k (-1) := by
        rw [hl, List.set_append_right _ _ (by rw [List.length_replicate]; omega), List.length_replicate, Nat.sub_self, show c.sl - k = (c.sl - (k + 1)) + 1 by omega, List.replicate_succ (n := c.sl - (k + 1)), List.set_cons_zero, List.replicate_succ', List.append_assoc]
        rfl
      rw [← hl] at hr
      obtain ⟨y, hy⟩ : ∃ y, l[k]? = some y := ⟨_, List.getElem?_eq_getElem (by omega)⟩
      have cx : wr.cell? ⟨gb, k, none⟩ = some (.int .i64 y) := own_at hr hy
      have fx : wr.frozen? ⟨gb, k, none⟩ = false := free_of hr k
      have HNEXT := hid hnext
      have HR2 := hid hr
      have HLT := hid hlt
      clear hlt hk hr hl hnext hy hlen'
      go_wp2
      go_roundw
      case rel => exact ⟨k + 1, by have := HLT.out; omega, by go_num, by rw [HNEXT.out, set_same HR2.out, i64s_set], HKW.out.setCell (.inr (Nat.le_of_eq HGB.out.symm)) _⟩
      case measure => have := HLT.out; simp [intOf]; omega
    · have hkn : k = c.sl := by omega
      subst hkn
      have dk : decide ((c.sl : Int) < (c.sl : Int)) = false := decide_eq_false (by omega)
      rw [Nat.sub_self, List.replicate_zero, List.append_nil] at hr
      have HR2 := hid hr
      clear hlt hk hr
      go_wp2
      obtain ⟨X, hX⟩ : ∃ X, X = wr.alloc (.cells (obsV [none, none, none, none, none, none, none, none]) 22) := ⟨_, rfl⟩
      have h0 : OneAt w X c b mb gb wr.heap.size (List.replicate c.sl (-1)) (List.replicate 8 none) 0 := by
        have hkx : Keep Nil w3 X := by rw [hX]; exact HKW.out.alloc _
        have hgl := lt_of_block HR2.out
        have hsz : X.heap.size = wr.heap.size + 1 := by rw [hX, World.size_alloc]
        have := HKW.out.size
        refine ⟨⟨_, [], SesIn.start HS3.out hkx (fun k hk => ?_), SO.init HC.out, by simp⟩, by rw [hX]; exact alloc_old HR2.out _, by rw [hX]; exact heap_alloc_new wr _, by simp, fun k x hx => ?_⟩
        · rcases hk with rfl | rfl
          · exact ⟨Nat.le_of_eq HGB.out.symm, by omega⟩
          · omega
        · obtain ⟨hi, e⟩ := List.getElem?_eq_some_iff.1 hx
          rw [List.getElem_replicate] at e; cases e
      rw [← hX]
      have HAT := hid h0
      generalize wr.heap.size = hb at *
      clear hX h0 HKW HR2 dk hmk8 HS3 HBR HKR HGB
      go_loopw [6, 10] (fun ev i wr => ∃ (k : Nat) (e6 : Int), k ≤ zs.length ∧ ev = .int .i64 e6 ∧ i = .int .i64 k ∧ ∃ own obs, OneAt w wr c b mb gb hb own obs k) (fun _ i _ => zs.length - (intOf i).toNat)
      case atStart => exact ⟨0, 0, Nat.zero_le _, rfl, rfl, _, _, HAT.out⟩
      case round =>
        obtain ⟨k, e6, hk, rfl, rfl, own, obs, hat⟩ := hrel
        have AT := hid hat
        clear hat HAT
        by_cases hlt : k < zs.length
        · by_cases h200 : k < 200
          · obtain ⟨x, hx⟩ : ∃ x, zs[k]? = some x := ⟨_, List.getElem?_eq_getElem hlt⟩
            obtain ⟨x0, x1⟩ := i64_wf (HWF.out x (List.mem_of_getElem? hx))
            have hrw := rd_keep HRD.out AT.out.kp (fun _ _ h => h)
            obtain ⟨ab, off, cc, hv, hcell⟩ := Rd.cell hrw (by omega)
            simp only [Value.slice.injEq] at hv
            obtain ⟨rfl, -, rfl⟩ := hv
            have cx := hcell k (.int .i64 x) (by simp [hx])
            have d1 : decide ((k : Int) < (zs.length : Int)) = true := decide_eq_true (by omega)
            have d2 : decide ((k : Int) < 200) = true := decide_eq_true (by omega)
            have k0 : (0 : Int) ≤ (k : Int) := by omega
            have k1 : (k : Int) < (zs.length : Int) := by omega
            have wk : IntKind.i64.wrap ((k : Int) + 1) = (k : Int) + 1 := by rw [IntKind.wrap_i64]; omega
            have HLT := hid hlt
            have H200 := hid h200
            clear hlt h200 hk hx hrw hcell
            by_cases hneg : x < 0
            · have dneg : decide (x < 0) = true := decide_eq_true hneg
              obtain ⟨j, hj⟩ : ∃ j : Nat, x % (c.sl : Int) = (j : Int) := ⟨(x % (c.sl : Int)).toNat, by have := Int.emod_nonneg x (b := (c.sl : Int)) (by omega); omega⟩
              have hjn : j < c.sl := by have := Int.emod_lt_of_pos x (b := (c.sl : Int)) (by omega); omega
              have HJ := hid hj
              have HX0 := hid (And.intro x0 x1)
              clear hneg hj x0 x1
              go_wp2_with fail
              refine (mod_ok x (c.sl : Int) HX0.out.1 HX0.out.2 (by omega) (by omega) _).mono ?_
              rintro e w' ⟨rfl, rfl⟩
              rw [HJ.out]
              obtain ⟨y, hy, y0, y1⟩ := AT.out.get hjn
              have cg := own_at AT.out.g hy
              have fg : wr.frozen? ⟨gb, j, none⟩ = false := free_of AT.out.g j
              obtain ⟨o, ho⟩ : ∃ o, (y + 1) % 8 = o := ⟨_, rfl⟩
              have o0 : 0 ≤ o := by omega
              have o1 : o < 64 := by omega
              have hne : y ≠ o := by omega
              have wy : IntKind.i64.wrap (y + 1) = y + 1 := by rw [IntKind.wrap_i64]; omega
              have wt : (y + 1).tmod 8 = o := by rw [Int.tmod_eq_emod_of_nonneg (by omega)]; exact ho
              have wo : IntKind.i64.wrap o = o := by rw [IntKind.wrap_i64]; omega
              have j0 : (0 : Int) ≤ (j : Int) := by omega
              have j1 : (j : Int) < (c.sl : Int) := by omega
              have HY := hid hy
              clear HJ hy
              go_wp2_with fail
              refine (k_close_state AT.out HC.out HY.out (t := o) o0 o1 hne).mono ?_
              rintro e w1 ⟨rfl, hk1⟩
              have AT1 := hid (AT.out.quiet hk1)
              have cg1 := own_at AT1.out.g HY.out
              have fg1 : w1.frozen? ⟨gb, j, none⟩ = false := free_of AT1.out.g j
              clear hk1 cg fg AT cx o0 o1 hne wy wt wo ho
              by_cases hy0 : 0 ≤ y
              · have dy : decide (0 ≤ y) = true := decide_eq_true hy0
                have dy2 : decide (y < 0) = false := decide_eq_false (by omega)
                go_wp2_with fail
                refine (k_close AT1.out HC.out HY.out hy0 (by have := H200.out; omega)).mono ?_
                rintro e w2 ⟨rfl, hg⟩
                have HG := hid hg
                have cg2 := own_at hg.g HY.out
                have fg2 : w2.frozen? ⟨gb, j, none⟩ = false := free_of hg.g j
                clear hg cg1 fg1 AT1
                go_wp2_with fail
                have AT3 := hid (HG.out.set (j := j) (x := -1) rfl rfl)
                obtain ⟨X, hX⟩ : ∃ X, X = w2.setCell ⟨gb, j, none⟩ (.int .i64 (-1)) := ⟨_, rfl⟩
                rw [← hX] at AT3 ⊢
                clear hX HG cg2 fg2
                obtain ⟨ow, how⟩ : ∃ l, l = own.set j (-1) := ⟨_, rfl⟩
                rw [← how] at AT3
                clear how
                refine (k_owners AT3.out HC.out).mono ?_
                rintro e w6 ⟨g, rfl, hg, -, hk6⟩
                have AT6 := hid (AT3.out.quiet hk6)
                have HG6 := hid hg
                have hon := AT6.out.on
                have cG := AT6.out.g
                rw [hon]
                clear hg hk6
                go_wp2_with fail
                refine (eqI_yes _ _ ow _ (by rw [hon]; exact hon ▸ own_rd HG6.out (Keep.refl Nil w6)) (by rw [hon]; exact rd_of_heap cG (by simp [i64s, hon])) (by rw [hon]; omega)).mono ?_
                rintro e w7 ⟨rfl, hk7⟩
                have AT7 := hid (AT6.out.quiet hk7)
                clear hk7 cG hon
                go_wp2
                go_roundw
                case rel => exact ⟨k + 1, _, by have := HLT.out; omega, rfl, by go_num, _, _, AT7.out⟩
                case measure => have := HLT.out; simp [intOf]; omega
              · have hym : y = -1 := by omega
                subst hym
                clear hy0
                have dy : decide (0 ≤ (-1 : Int)) = false := by decide
                go_wp2_with fail
                have AT3 := hid (AT1.out.gone.set (j := j) (x := -1) (by
                  obtain ⟨ws, log, hs, h1, h2⟩ := AT1.out.ses
                  exact (h1.same HY.out).symm) rfl)
                obtain ⟨X, hX⟩ : ∃ X, X = w1.setCell ⟨gb, j, none⟩ (.int .i64 (-1)) := ⟨_, rfl⟩
                rw [← hX] at AT3 ⊢
                clear hX AT1 cg1 fg1
                obtain ⟨ow, how⟩ : ∃ l, l = own := ⟨_, rfl⟩
                rw [← how] at AT3
                clear how
                refine (k_owners AT3.out HC.out).mono ?_
                rintro e w6 ⟨g, rfl, hg, -, hk6⟩
                have AT6 := hid (AT3.out.quiet hk6)
                have HG6 := hid hg
                have hon := AT6.out.on
                have cG := AT6.out.g
                rw [hon]
                clear hg hk6
                go_wp2_with fail
                refine (eqI_yes _ _ ow _ (by rw [hon]; exact hon ▸ own_rd HG6.out (Keep.refl Nil w6)) (by rw [hon]; exact rd_of_heap cG (by simp [i64s, hon])) (by rw [hon]; omega)).mono ?_
                rintro e w7 ⟨rfl, hk7⟩
                have AT7 := hid (AT6.out.quiet hk7)
                clear hk7 cG hon
                go_wp2
                go_roundw
                case rel => exact ⟨k + 1, _, by have := HLT.out; omega, rfl, by go_num, _, _, AT7.out⟩
                case measure => have := HLT.out; simp [intOf]; omega
            · have dneg : decide (x < 0) = false := decide_eq_false hneg
              obtain ⟨kk, hkx⟩ : ∃ kk : Nat, x % 8 = (kk : Int) := ⟨(x % 8).toNat, by omega⟩
              have hkk : kk < 8 := by omega
              have wt : x.tmod 8 = (kk : Int) := by rw [Int.tmod_eq_emod_of_nonneg (by omega)]; exact hkx
              have wkk : IntKind.i64.wrap (kk : Int) = (kk : Int) := by rw [IntKind.wrap_i64]; omega
              have kk0 : (0 : Int) ≤ (kk : Int) := by omega
              have kk1 : (kk : Int) < 8 := by omega
              obtain ⟨ob, hob⟩ := AT.out.obj hkk
              have HO := hid hob
              have ch := obsV_at AT.out.h hob
              clear hneg hob x0 x1
              cases ob with
              | none =>
                have ch0 : wr.cell? ⟨hb, kk, none⟩ = some (.pointer none) := ch
                clear ch
                go_wp2_with fail
                refine (k_new AT.out HC.out hkk).mono ?_
                rintro e w1 ⟨xx, hxt, hxs, rfl, hg⟩
                have ch1 : w1.cell? ⟨hb, kk, none⟩ = some (.pointer none) := obsV_at hg.h HO.out
                have fh1 : w1.frozen? ⟨hb, kk, none⟩ = false := free_of hg.h kk
                obtain ⟨obs9, hobs9⟩ : ∃ o, o = obs.set kk (some xx) := ⟨_, rfl⟩
                rw [← hobs9] at hg
                have HG := hid hg
                have HXX := hid (show obs9[kk]? = some (some xx) from by rw [hobs9]; exact List.getElem?_set_self (by have := AT.out.ok.1; omega))
                obtain ⟨j, r, hjr⟩ : ∃ j r, List.range c.sl = j :: r := by
                  cases h : List.range c.sl with
                  | nil => have := congrArg List.length h; simp at this; omega
                  | cons j r => exact ⟨j, r, rfl⟩
                have HLF := hid (show xx.s.left = j :: r from by rw [hxs]; exact hjr)
                have HOB := hid hobs9
                clear hg hobs9 hjr hxs hxt
                go_wp2_with fail
                have AT9 := hid (HG.out.put (k := kk) (x := some xx) HOB.out)
                unfold OOPtr at AT9
                obtain ⟨X9, hX9⟩ : ∃ X, X = w1.setCell ⟨hb, kk, none⟩ (.pointer (some ⟨xx.o, 0, none⟩)) := ⟨_, rfl⟩
                simp only [← hX9] at AT9 ⊢
                clear hX9 HG ch1 fh1 AT
                have hjn : j < c.sl := (AT9.out.ok.2 kk xx HXX.out).2.1 j (by rw [HLF.out]; exact List.mem_cons_self ..)
                obtain ⟨y, hy, y0, y1⟩ := AT9.out.get hjn
                have HY := hid hy
                have j0 : (0 : Int) ≤ (j : Int) := by omega
                have j1 : (j : Int) < (c.sl : Int) := by omega
                clear hy
                by_cases hym : y = -1
                · subst hym
                  refine (k_yes AT9.out HC.out (by have := H200.out; omega) hkk HXX.out HLF.out HY.out).mono ?_
                  rintro e w3 ⟨rfl, y', hyo, hys, hg⟩
                  have hset : (obs9.set kk (some y'))[kk]? = some (some y') := List.getElem?_set_self (by have := AT9.out.ok.1; omega)
                  have ch3 : w3.cell? ⟨hb, kk, none⟩ = some (.pointer (some ⟨y'.o, 0, none⟩)) := obsV_at hg.h hset
                  have HG := hid hg
                  have HSET := hid hset
                  have HYS := hid hys
                  clear hg hset hys hyo AT9
                  go_wp2_with fail
                  refine (k_res HG.out HSET.out HYS.out).mono ?_
                  rintro e w4 ⟨rfl, hk4⟩
                  have HG4 := hid (HG.out.quiet hk4)
                  have cg4 := own_at HG4.out.g HY.out
                  have fg4 : w4.frozen? ⟨gb, j, none⟩ = false := free_of HG4.out.g j
                  have dj0 : decide (0 ≤ (j : Int)) = true := decide_eq_true j0
                  have dj1 : decide ((j : Int) < (c.sl : Int)) = true := decide_eq_true j1
                  clear hk4 HG ch3
                  go_wp2_with fail
                  have AT3 := hid (HG4.out.set (j := j) (x := (kk : Int)) rfl rfl)
                  obtain ⟨X3, hX3⟩ : ∃ X, X = w4.setCell ⟨gb, j, none⟩ (.int .i64 (kk : Int)) := ⟨_, rfl⟩
                  rw [← hX3] at AT3 ⊢
                  clear hX3 HG4 cg4 fg4
                  obtain ⟨ow, how⟩ : ∃ l, l = own.set j (kk : Int) := ⟨_, rfl⟩
                  rw [← how] at AT3
                  clear how
                  refine (k_owners AT3.out HC.out).mono ?_
                  rintro e w6 ⟨g, rfl, hg, -, hk6⟩
                  have AT6 := hid (AT3.out.quiet hk6)
                  have HG6 := hid hg
                  have hon := AT6.out.on
                  have cG := AT6.out.g
                  rw [hon]
                  clear hg hk6
                  go_wp2_with fail
                  refine (eqI_yes _ _ ow _ (by rw [hon]; exact hon ▸ own_rd HG6.out (Keep.refl Nil w6)) (by rw [hon]; exact rd_of_heap cG (by simp [i64s, hon])) (by rw [hon]; omega)).mono ?_
                  rintro e w7 ⟨rfl, hk7⟩
                  have AT7 := hid (AT6.out.quiet hk7)
                  clear hk7 cG hon
                  go_wp2
                  go_roundw
                  case rel => exact ⟨k + 1, _, by have := HLT.out; omega, rfl, by go_num, _, _, AT7.out⟩
                  case measure => have := HLT.out; simp [intOf]; omega
                · cases r with
                  | nil =>
                    refine (k_last AT9.out HC.out (by have := H200.out; omega) hkk HXX.out HLF.out HY.out hym).mono ?_
                    rintro e w3 ⟨rfl, y', hyo, hys, hg⟩
                    have hset : (obs9.set kk (some y'))[kk]? = some (some y') := List.getElem?_set_self (by have := AT9.out.ok.1; omega)
                    have ch3 : w3.cell? ⟨hb, kk, none⟩ = some (.pointer (some ⟨y'.o, 0, none⟩)) := obsV_at hg.h hset
                    have HG := hid hg
                    have HSET := hid hset
                    have HYS := hid hys
                    clear hg hset hys hyo AT9
                    go_wp2_with fail
                    refine (k_res' HG.out HSET.out HYS.out).mono ?_
                    rintro e w4 ⟨rfl, hk4⟩
                    have AT3 := hid (HG.out.quiet hk4)
                    clear hk4 HG ch3
                    go_wp2_with fail
                    obtain ⟨ow, how⟩ : ∃ l, l = own := ⟨_, rfl⟩
                    rw [← how] at AT3
                    clear how
                    refine (k_owners AT3.out HC.out).mono ?_
                    rintro e w6 ⟨g, rfl, hg, -, hk6⟩
                    have AT6 := hid (AT3.out.quiet hk6)
                    have HG6 := hid hg
                    have hon := AT6.out.on
                    have cG := AT6.out.g
                    rw [hon]
                    clear hg hk6
                    go_wp2_with fail
                    refine (eqI_yes _ _ ow _ (by rw [hon]; exact hon ▸ own_rd HG6.out (Keep.refl Nil w6)) (by rw [hon]; exact rd_of_heap cG (by simp [i64s, hon])) (by rw [hon]; omega)).mono ?_
                    rintro e w7 ⟨rfl, hk7⟩
                    have AT7 := hid (AT6.out.quiet hk7)
                    clear hk7 cG hon
                    go_wp2
                    go_roundw
                    case rel => exact ⟨k + 1, _, by have := HLT.out; omega, rfl, by go_num, _, _, AT7.out⟩
                    case measure => have := HLT.out; simp [intOf]; omega
                  | cons i r =>
                    refine (k_more AT9.out HC.out (by have := H200.out; omega) hkk HXX.out HLF.out HY.out hym).mono ?_
                    rintro e w3 ⟨rfl, y', hyo, hys, hg⟩
                    have AT3 := hid hg
                    clear hg hys hyo AT9
                    go_wp2_with fail
                    obtain ⟨ow, how⟩ : ∃ l, l = own := ⟨_, rfl⟩
                    rw [← how] at AT3
                    clear how
                    refine (k_owners AT3.out HC.out).mono ?_
                    rintro e w6 ⟨g, rfl, hg, -, hk6⟩
                    have AT6 := hid (AT3.out.quiet hk6)
                    have HG6 := hid hg
                    have hon := AT6.out.on
                    have cG := AT6.out.g
                    rw [hon]
                    clear hg hk6
                    go_wp2_with fail
                    refine (eqI_yes _ _ ow _ (by rw [hon]; exact hon ▸ own_rd HG6.out (Keep.refl Nil w6)) (by rw [hon]; exact rd_of_heap cG (by simp [i64s, hon])) (by rw [hon]; omega)).mono ?_
                    rintro e w7 ⟨rfl, hk7⟩
                    have AT7 := hid (AT6.out.quiet hk7)
                    clear hk7 cG hon
                    go_wp2
                    go_roundw
                    case rel => exact ⟨k + 1, _, by have := HLT.out; omega, rfl, by go_num, _, _, AT7.out⟩
                    case measure => have := HLT.out; simp [intOf]; omega
              | some xo =>
                have ch0 : wr.cell? ⟨hb, kk, none⟩ = some (.pointer (some ⟨xo.o, 0, none⟩)) := ch
                clear ch
                cases hlf : xo.s.left with
                | nil =>
                  go_wp2_with fail
                  refine (snext_idle 0 _ (AT.out.ob HO.out) (by rw [hlf]; rfl)).mono ?_
                  rintro e w' ⟨rfl, rfl⟩
                  go_wp2_with fail
                  refine (k_new AT.out HC.out hkk).mono ?_
                  rintro e w1 ⟨xx, hxt, hxs, rfl, hg⟩
                  have ch1 : w1.cell? ⟨hb, kk, none⟩ = some (.pointer (some ⟨xo.o, 0, none⟩)) := obsV_at hg.h HO.out
                  have fh1 : w1.frozen? ⟨hb, kk, none⟩ = false := free_of hg.h kk
                  obtain ⟨obs9, hobs9⟩ : ∃ o, o = obs.set kk (some xx) := ⟨_, rfl⟩
                  rw [← hobs9] at hg
                  have HG := hid hg
                  have HXX := hid (show obs9[kk]? = some (some xx) from by rw [hobs9]; exact List.getElem?_set_self (by have := AT.out.ok.1; omega))
                  obtain ⟨j, r, hjr⟩ : ∃ j r, List.range c.sl = j :: r := by
                    cases h : List.range c.sl with
                    | nil => have := congrArg List.length h; simp at this; omega
                    | cons j r => exact ⟨j, r, rfl⟩
                  have HLF := hid (show xx.s.left = j :: r from by rw [hxs]; exact hjr)
                  have HOB := hid hobs9
                  clear hg hobs9 hjr hxs hxt
                  go_wp2_with fail
                  have AT9 := hid (HG.out.put (k := kk) (x := some xx) HOB.out)
                  unfold OOPtr at AT9
                  obtain ⟨X9, hX9⟩ : ∃ X, X = w1.setCell ⟨hb, kk, none⟩ (.pointer (some ⟨xx.o, 0, none⟩)) := ⟨_, rfl⟩
                  simp only [← hX9] at AT9 ⊢
                  clear hX9 HG ch1 fh1 AT
                  have hjn : j < c.sl := (AT9.out.ok.2 kk xx HXX.out).2.1 j (by rw [HLF.out]; exact List.mem_cons_self ..)
                  obtain ⟨y, hy, y0, y1⟩ := AT9.out.get hjn
                  have HY := hid hy
                  have j0 : (0 : Int) ≤ (j : Int) := by omega
                  have j1 : (j : Int) < (c.sl : Int) := by omega
                  clear hy
                  by_cases hym : y = -1
                  · subst hym
                    refine (k_yes AT9.out HC.out (by have := H200.out; omega) hkk HXX.out HLF.out HY.out).mono ?_
                    rintro e w3 ⟨rfl, y', hyo, hys, hg⟩
                    have hset : (obs9.set kk (some y'))[kk]? = some (some y') := List.getElem?_set_self (by have := AT9.out.ok.1; omega)
                    have ch3 : w3.cell? ⟨hb, kk, none⟩ = some (.pointer (some ⟨y'.o, 0, none⟩)) := obsV_at hg.h hset
                    have HG := hid hg
                    have HSET := hid hset
                    have HYS := hid hys
                    clear hg hset hys hyo AT9
                    go_wp2_with fail
                    refine (k_res HG.out HSET.out HYS.out).mono ?_
                    rintro e w4 ⟨rfl, hk4⟩
                    have HG4 := hid (HG.out.quiet hk4)
                    have cg4 := own_at HG4.out.g HY.out
                    have fg4 : w4.frozen? ⟨gb, j, none⟩ = false := free_of HG4.out.g j
                    have dj0 : decide (0 ≤ (j : Int)) = true := decide_eq_true j0
                    have dj1 : decide ((j : Int) < (c.sl : Int)) = true := decide_eq_true j1
                    clear hk4 HG ch3
                    go_wp2_with fail
                    have AT3 := hid (HG4.out.set (j := j) (x := (kk : Int)) rfl rfl)
                    obtain ⟨X3, hX3⟩ : ∃ X, X = w4.setCell ⟨gb, j, none⟩ (.int .i64 (kk : Int)) := ⟨_, rfl⟩
                    rw [← hX3] at AT3 ⊢
                    clear hX3 HG4 cg4 fg4
                    obtain ⟨ow, how⟩ : ∃ l, l = own.set j (kk : Int) := ⟨_, rfl⟩
                    rw [← how] at AT3
                    clear how
                    refine (k_owners AT3.out HC.out).mono ?_
                    rintro e w6 ⟨g, rfl, hg, -, hk6⟩
                    have AT6 := hid (AT3.out.quiet hk6)
                    have HG6 := hid hg
                    have hon := AT6.out.on
                    have cG := AT6.out.g
                    rw [hon]
                    clear hg hk6
                    go_wp2_with fail
                    refine (eqI_yes _ _ ow _ (by rw [hon]; exact hon ▸ own_rd HG6.out (Keep.refl Nil w6)) (by rw [hon]; exact rd_of_heap cG (by simp [i64s, hon])) (by rw [hon]; omega)).mono ?_
                    rintro e w7 ⟨rfl, hk7⟩
                    have AT7 := hid (AT6.out.quiet hk7)
                    clear hk7 cG hon
                    go_wp2
                    go_roundw
                    case rel => exact ⟨k + 1, _, by have := HLT.out; omega, rfl, by go_num, _, _, AT7.out⟩
                    case measure => have := HLT.out; simp [intOf]; omega
                  · cases r with
                    | nil =>
                      refine (k_last AT9.out HC.out (by have := H200.out; omega) hkk HXX.out HLF.out HY.out hym).mono ?_
                      rintro e w3 ⟨rfl, y', hyo, hys, hg⟩
                      have hset : (obs9.set kk (some y'))[kk]? = some (some y') := List.getElem?_set_self (by have := AT9.out.ok.1; omega)
                      have ch3 : w3.cell? ⟨hb, kk, none⟩ = some (.pointer (some ⟨y'.o, 0, none⟩)) := obsV_at hg.h hset
                      have HG := hid hg
                      have HSET := hid hset
                      have HYS := hid hys
                      clear hg hset hys hyo AT9
                      go_wp2_with fail
                      refine (k_res' HG.out HSET.out HYS.out).mono ?_
                      rintro e w4 ⟨rfl, hk4⟩
                      have AT3 := hid (HG.out.quiet hk4)
                      clear hk4 HG ch3
                      go_wp2_with fail
                      obtain ⟨ow, how⟩ : ∃ l, l = own := ⟨_, rfl⟩
                      rw [← how] at AT3
                      clear how
                      refine (k_owners AT3.out HC.out).mono ?_
                      rintro e w6 ⟨g, rfl, hg, -, hk6⟩
                      have AT6 := hid (AT3.out.quiet hk6)
                      have HG6 := hid hg
                      have hon := AT6.out.on
                      have cG := AT6.out.g
                      rw [hon]
                      clear hg hk6
                      go_wp2_with fail
                      refine (eqI_yes _ _ ow _ (by rw [hon]; exact hon ▸ own_rd HG6.out (Keep.refl Nil w6)) (by rw [hon]; exact rd_of_heap cG (by simp [i64s, hon])) (by rw [hon]; omega)).mono ?_
                      rintro e w7 ⟨rfl, hk7⟩
                      have AT7 := hid (AT6.out.quiet hk7)
                      clear hk7 cG hon
                      go_wp2
                      go_roundw
                      case rel => exact ⟨k + 1, _, by have := HLT.out; omega, rfl, by go_num, _, _, AT7.out⟩
                      case measure => have := HLT.out; simp [intOf]; omega
                    | cons i r =>
                      refine (k_more AT9.out HC.out (by have := H200.out; omega) hkk HXX.out HLF.out HY.out hym).mono ?_
                      rintro e w3 ⟨rfl, y', hyo, hys, hg⟩
                      have AT3 := hid hg
                      clear hg hys hyo AT9
                      go_wp2_with fail
                      obtain ⟨ow, how⟩ : ∃ l, l = own := ⟨_, rfl⟩
                      rw [← how] at AT3
                      clear how
                      refine (k_owners AT3.out HC.out).mono ?_
                      rintro e w6 ⟨g, rfl, hg, -, hk6⟩
                      have AT6 := hid (AT3.out.quiet hk6)
                      have HG6 := hid hg
                      have hon := AT6.out.on
                      have cG := AT6.out.g
                      rw [hon]
                      clear hg hk6
                      go_wp2_with fail
                      refine (eqI_yes _ _ ow _ (by rw [hon]; exact hon ▸ own_rd HG6.out (Keep.refl Nil w6)) (by rw [hon]; exact rd_of_heap cG (by simp [i64s, hon])) (by rw [hon]; omega)).mono ?_
                      rintro e w7 ⟨rfl, hk7⟩
                      have AT7 := hid (AT6.out.quiet hk7)
                      clear hk7 cG hon
                      go_wp2
                      go_roundw
                      case rel => exact ⟨k + 1, _, by have := HLT.out; omega, rfl, by go_num, _, _, AT7.out⟩
                      case measure => have := HLT.out; simp [intOf]; omega
                | cons j r =>
                  go_wp2_with fail
                  refine (snext_own _ (AT.out.ob HO.out) (by rw [hlf]; simp)).mono ?_
                  rintro e w' ⟨rfl, rfl⟩
                  obtain ⟨obs9, hobs9⟩ : ∃ o, o = obs := ⟨_, rfl⟩
                  obtain ⟨xx, hxx⟩ : ∃ x, x = xo := ⟨_, rfl⟩
                  rw [← hxx] at hlf ch0
                  rw [← hobs9, ← hxx] at HO
                  rw [← hobs9] at AT
                  rw [← hxx]
                  have HXX := hid HO.out
                  have HLF := hid hlf
                  have AT9 := hid AT.out
                  clear hlf hxx hobs9 HO AT
                  go_wp2_with fail
                  have hjn : j < c.sl := (AT9.out.ok.2 kk xx HXX.out).2.1 j (by rw [HLF.out]; exact List.mem_cons_self ..)
                  obtain ⟨y, hy, y0, y1⟩ := AT9.out.get hjn
                  have HY := hid hy
                  have j0 : (0 : Int) ≤ (j : Int) := by omega
                  have j1 : (j : Int) < (c.sl : Int) := by omega
                  clear hy
                  by_cases hym : y = -1
                  · subst hym
                    refine (k_yes AT9.out HC.out (by have := H200.out; omega) hkk HXX.out HLF.out HY.out).mono ?_
                    rintro e w3 ⟨rfl, y', hyo, hys, hg⟩
                    have hset : (obs9.set kk (some y'))[kk]? = some (some y') := List.getElem?_set_self (by have := AT9.out.ok.1; omega)
                    have ch3 : w3.cell? ⟨hb, kk, none⟩ = some (.pointer (some ⟨y'.o, 0, none⟩)) := obsV_at hg.h hset
                    have HG := hid hg
                    have HSET := hid hset
                    have HYS := hid hys
                    clear hg hset hys hyo AT9
                    go_wp2_with fail
                    refine (k_res HG.out HSET.out HYS.out).mono ?_
                    rintro e w4 ⟨rfl, hk4⟩
                    have HG4 := hid (HG.out.quiet hk4)
                    have cg4 := own_at HG4.out.g HY.out
                    have fg4 : w4.frozen? ⟨gb, j, none⟩ = false := free_of HG4.out.g j
                    have dj0 : decide (0 ≤ (j : Int)) = true := decide_eq_true j0
                    have dj1 : decide ((j : Int) < (c.sl : Int)) = true := decide_eq_true j1
                    clear hk4 HG ch3
                    go_wp2_with fail
                    have AT3 := hid (HG4.out.set (j := j) (x := (kk : Int)) rfl rfl)
                    obtain ⟨X3, hX3⟩ : ∃ X, X = w4.setCell ⟨gb, j, none⟩ (.int .i64 (kk : Int)) := ⟨_, rfl⟩
                    rw [← hX3] at AT3 ⊢
                    clear hX3 HG4 cg4 fg4
                    obtain ⟨ow, how⟩ : ∃ l, l = own.set j (kk : Int) := ⟨_, rfl⟩
                    rw [← how] at AT3
                    clear how
                    refine (k_owners AT3.out HC.out).mono ?_
                    rintro e w6 ⟨g, rfl, hg, -, hk6⟩
                    have AT6 := hid (AT3.out.quiet hk6)
                    have HG6 := hid hg
                    have hon := AT6.out.on
                    have cG := AT6.out.g
                    rw [hon]
                    clear hg hk6
                    go_wp2_with fail
                    refine (eqI_yes _ _ ow _ (by rw [hon]; exact hon ▸ own_rd HG6.out (Keep.refl Nil w6)) (by rw [hon]; exact rd_of_heap cG (by simp [i64s, hon])) (by rw [hon]; omega)).mono ?_
                    rintro e w7 ⟨rfl, hk7⟩
                    have AT7 := hid (AT6.out.quiet hk7)
                    clear hk7 cG hon
                    go_wp2
                    go_roundw
                    case rel => exact ⟨k + 1, _, by have := HLT.out; omega, rfl, by go_num, _, _, AT7.out⟩
                    case measure => have := HLT.out; simp [intOf]; omega
                  · cases r with
                    | nil =>
                      refine (k_last AT9.out HC.out (by have := H200.out; omega) hkk HXX.out HLF.out HY.out hym).mono ?_
                      rintro e w3 ⟨rfl, y', hyo, hys, hg⟩
                      have hset : (obs9.set kk (some y'))[kk]? = some (some y') := List.getElem?_set_self (by have := AT9.out.ok.1; omega)
                      have ch3 : w3.cell? ⟨hb, kk, none⟩ = some (.pointer (some ⟨y'.o, 0, none⟩)) := obsV_at hg.h hset
                      have HG := hid hg
                      have HSET := hid hset
                      have HYS := hid hys
                      clear hg hset hys hyo AT9
                      go_wp2_with fail
                      refine (k_res' HG.out HSET.out HYS.out).mono ?_
                      rintro e w4 ⟨rfl, hk4⟩
                      have AT3 := hid (HG.out.quiet hk4)
                      clear hk4 HG ch3
                      go_wp2_with fail
                      obtain ⟨ow, how⟩ : ∃ l, l = own := ⟨_, rfl⟩
                      rw [← how] at AT3
                      clear how
                      refine (k_owners AT3.out HC.out).mono ?_
                      rintro e w6 ⟨g, rfl, hg, -, hk6⟩
                      have AT6 := hid (AT3.out.quiet hk6)
                      have HG6 := hid hg
                      have hon := AT6.out.on
                      have cG := AT6.out.g
                      rw [hon]
                      clear hg hk6
                      go_wp2_with fail
                      refine (eqI_yes _ _ ow _ (by rw [hon]; exact hon ▸ own_rd HG6.out (Keep.refl Nil w6)) (by rw [hon]; exact rd_of_heap cG (by simp [i64s, hon])) (by rw [hon]; omega)).mono ?_
                      rintro e w7 ⟨rfl, hk7⟩
                      have AT7 := hid (AT6.out.quiet hk7)
                      clear hk7 cG hon
                      go_wp2
                      go_roundw
                      case rel => exact ⟨k + 1, _, by have := HLT.out; omega, rfl, by go_num, _, _, AT7.out⟩
                      case measure => have := HLT.out; simp [intOf]; omega
                    | cons i r =>
                      refine (k_more AT9.out HC.out (by have := H200.out; omega) hkk HXX.out HLF.out HY.out hym).mono ?_
                      rintro e w3 ⟨rfl, y', hyo, hys, hg⟩
                      have AT3 := hid hg
                      clear hg hys hyo AT9
                      go_wp2_with fail
                      obtain ⟨ow, how⟩ : ∃ l, l = own := ⟨_, rfl⟩
                      rw [← how] at AT3
                      clear how
                      refine (k_owners AT3.out HC.out).mono ?_
                      rintro e w6 ⟨g, rfl, hg, -, hk6⟩
                      have AT6 := hid (AT3.out.quiet hk6)
                      have HG6 := hid hg
                      have hon := AT6.out.on
                      have cG := AT6.out.g
                      rw [hon]
                      clear hg hk6
                      go_wp2_with fail
                      refine (eqI_yes _ _ ow _ (by rw [hon]; exact hon ▸ own_rd HG6.out (Keep.refl Nil w6)) (by rw [hon]; exact rd_of_heap cG (by simp [i64s, hon])) (by rw [hon]; omega)).mono ?_
                      rintro e w7 ⟨rfl, hk7⟩
                      have AT7 := hid (AT6.out.quiet hk7)
                      clear hk7 cG hon
                      go_wp2
                      go_roundw
                      case rel => exact ⟨k + 1, _, by have := HLT.out; omega, rfl, by go_num, _, _, AT7.out⟩
                      case measure => have := HLT.out; simp [intOf]; omega
          · have d1 : decide ((k : Int) < (zs.length : Int)) = true := decide_eq_true (by omega)
            have d2 : decide ((k : Int) < 200) = false := decide_eq_false (by omega)
            have d3 : decide (k < 200) = false := decide_eq_false h200
            have d4 : decide (k < zs.length) = true := decide_eq_true hlt
            go_wp2_with fail
            refine (awake_ok).mono ?_
            rintro e w5 ⟨rfl, hk5⟩
            have HK5 := hid (AT.out.kp.trans hk5 (fun _ _ h => h))
            clear hk5
            go_wp2
            go_ret
            exact ⟨rfl, HK5.out⟩
        · have d1 : decide ((k : Int) < (zs.length : Int)) = false := decide_eq_false (by omega)
          have d4 : decide (k < zs.length) = false := decide_eq_false hlt
          go_wp2_with fail
          refine (awake_ok).mono ?_
          rintro e w5 ⟨rfl, hk5⟩
          have HK5 := hid (AT.out.kp.trans hk5 (fun _ _ h => h))
          clear hk5
          go_wp2
          go_ret
          exact ⟨rfl, HK5.out⟩
end Go.Proofs.YtjghenomeindcaaGreat
