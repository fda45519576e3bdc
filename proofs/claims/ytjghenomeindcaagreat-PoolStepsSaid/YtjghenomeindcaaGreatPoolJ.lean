/- PoolSteps: the two sides together: contracts. -/
import Derived.Test.YtjghenomeindcaaGreatPoolQG
set_option linter.unusedVariables false
set_option linter.unusedSimpArgs false
namespace Go.Lf
open Go.RowKit in
/-- A new object, at any new block. -/
theorem ObjsAt.newAt {σ ω : Type} {P : Lies σ} {O : OpLies ω} {w w' : World} {A F : Nat → Prop} {s s' : σ} {ops : List ω} {bl : List Nat} (h : ObjsAt P O w A s ops bl F) {o : ω} {q : Nat} (hq : w.heap.size ≤ q) (hs : P.lie w' F s') (ho : O.at_ w' q o) (hk : Keep F w w') : (P.objs O).To w A (s', ops ++ [o], bl ++ [q]) w' := by
  have nF : ¬ F q := fun e => by have := P.lt h.sys _ e; omega
  have old : ∀ (i b : Nat), bl[i]? = some b → b < w.heap.size := fun i b hb => h.lt b ((h.foot b).2 (.inr (List.mem_of_getElem? hb)))
  refine h.to bl.length hs (hk.mono fun k _ e => .inl e) (fun k hk => .inl hk) (by simp [h.len]) (fun i b' p hb' hp => ?_) (fun b hb => ?_) (fun i j b hi hj => ?_)
  · rcases get_snoc hb' with ⟨e1, e2⟩ | ⟨e1, e2⟩ <;> rcases get_snoc hp with ⟨e3, e4⟩ | ⟨e3, e4⟩
    · subst e2; subst e4; exact .inr ⟨ho, nF⟩
    · exact absurd (e1.trans h.len) e3
    · exact absurd (e3.trans h.len.symm) e1
    · exact .inl ⟨e1, e2, e4⟩
  · rcases List.mem_append.1 hb with e | e
    · exact .inl e
    · simp only [List.mem_singleton] at e; exact .inr (by omega)
  · rcases get_snoc hi with ⟨e1, e2⟩ | ⟨e1, e2⟩ <;> rcases get_snoc hj with ⟨e3, e4⟩ | ⟨e3, e4⟩
    · exact e1.trans e3.symm
    · have := old j b e4; omega
    · have := old i b e2; omega
    · exact h.apart i j b e2 e4
def ptErr (th hh tr : Int) : Int := if th < 0 ∨ 64 ≤ th ∨ tr < 0 ∨ 255 < tr then 2 else if hh < 1 ∨ 6 < hh then 3 else 0
def pgErr (n : Nat) (out : Int → Option Bool) (th tw : Int) : Int := if th < 0 ∨ 64 ≤ th then 2 else if tw < 1 ∨ (n : Int) < tw then 3 else if out tw = some false then 0 else 8
theorem ptErr_0 {th hh tr : Int} (h : ptErr th hh tr = 0) : 0 ≤ th ∧ th < 64 ∧ 1 ≤ hh ∧ hh ≤ 6 ∧ 0 ≤ tr ∧ tr ≤ 255 := by
  unfold ptErr at h
  split at h
  · cases h
  · split at h
    · cases h
    · omega
theorem pgErr_0 {n : Nat} {out : Int → Option Bool} {th tw : Int} (h : pgErr n out th tw = 0) : 0 ≤ th ∧ th < 64 ∧ 1 ≤ tw ∧ tw ≤ n ∧ out tw = some false := by
  unfold pgErr at h
  split at h
  · cases h
  · split at h
    · cases h
    · split at h
      · rename_i h3
        exact ⟨by omega, by omega, by omega, by omega, h3⟩
      · cases h
end Go.Lf
namespace Go.Proofs.YtjghenomeindcaaGreat
open Go.RowKit Go.Lf
def ptrV (k : Nat) : Value := .pointer (some ⟨k, 0, none⟩)
def RRO (pb : Nat) : OpLies PO where
  at_ w o s := RRunAt w o pb s
  keep := fun h hk hn => hk.at h hn
  lt := fun h => lt_of_block h
abbrev PMT (w wr : World) (Lo : Nat → Prop) (c : Cfg) (pb mb L qb nb l : Nat) (s s' : PSt) (xs : List POb) (qs : List PO) (bl : List Nat) : Prop :=
  Two (PoolsL c pb mb L) ((RPoolL c qb nb l).objs (RRO qb)) w Lo (s, xs) (s', qs, bl) wr
theorem p_own1 {σ τ : Type} {P : Lies σ} {R : Lies τ} {w wr : World} {L : Nat → Prop} {s : σ} {r : τ} (h : Two P R w L s r wr) (o : Obj) : Two P R w (fun k => L k ∨ k = wr.heap.size) s r (wr.alloc o) :=
  h.loc ((Keep.refl L wr).alloc o) (fun k e => e.imp id (fun e => by subst e; exact ⟨Nat.le_refl _, by simp⟩))
section
variable {w wr w' : World} {Lo : Nat → Prop} {c : Cfg} {pb mb L qb nb l tb m : Nat} {s s' t : PSt} {xs : List POb} {qs : List PO} {bl : List Nat} {o : PO} {th hh tr tw : Int} {Lst : Nat → List Int} {sw : Nat → Int}
theorem p_out {w wr w' : World} {L : Nat → Prop} (h : Keep Nil wr w') : Keep (Out w L) wr w' := h.mono (fun _ _ h => h.elim)
theorem PMT.pa (h : PMT w wr Lo c pb mb L qb nb l s s' xs qs bl) : ∃ A ob gb F G, PA wr A c pb mb L ob gb F G s := by
  obtain ⟨A, hA⟩ := h.has1
  exact pools_pa hA
theorem PMT.rpa (h : PMT w wr Lo c pb mb L qb nb l s s' xs qs bl) : ∃ B tb vb gb F G, RPA wr B c qb nb l tb vb gb F G s' := by
  obtain ⟨A, F, ho⟩ := h.has2
  obtain ⟨tb, vb, gb, F1, G, hp⟩ := ho.sys
  exact ⟨F, tb, vb, gb, F1, G, hp⟩
theorem PMT.rob (h : PMT w wr Lo c pb mb L qb nb l s s' xs qs bl) {k p : Nat} {q : PO} (hb : bl[k]? = some p) (hq : qs[k]? = some q) : RRunAt wr p qb q := by
  obtain ⟨A, F, ho⟩ := h.has2
  exact (ho.objs k p q hb hq).1
theorem PMT.tk (h : PMT w wr Lo c pb mb L qb nb l s s' xs qs bl) {k : Nat} {x : POb} (hx : xs[k]? = some x) (hg : x.o.gv = false) : TkAt wr x.tb x.m pb c x.o := by
  obtain ⟨A, hA⟩ := h.has1
  exact pools_tk hA hx hg
theorem PMT.gv (h : PMT w wr Lo c pb mb L qb nb l s s' xs qs bl) {k : Nat} {x : POb} (hx : xs[k]? = some x) (hg : x.o.gv = true) : GvAt wr x.tb x.m pb c x.o := by
  obtain ⟨A, hA⟩ := h.has1
  exact pools_gv hA hx hg
/-! Operations that are over. -/
set_option maxHeartbeats 1000000 in
theorem tstep_idle (h : TkAt w tb m pb c o) (hp : o.pc = 0) : Calls Tryz.prog 90 #[.pointer (some ⟨tb, 0, none⟩)] w fun e w' => e = .returned (.tuple #[.int .u8 0, .bool false]) ∧ w = w' := by
  have HN := hid (tnext_ok h)
  rw [hp] at HN
  clear h hp
  go_enter Tryz.func90, Tryz.ntmps90
  go_wp2_with fail
  refine HN.out.mono ?_
  rintro e w' ⟨rfl, rfl⟩
  go_wp2
  go_ret2
  exact ⟨rfl, rfl⟩
set_option maxHeartbeats 1000000 in
theorem gstep_idle (h : GvAt w tb m pb c o) (hp : o.pc = 0) : Calls Tryz.prog 95 #[.pointer (some ⟨tb, 0, none⟩)] w fun e w' => e = .returned (.tuple #[.int .u8 0, .bool false]) ∧ w = w' := by
  have HN := hid (gnext_ok h)
  rw [hp] at HN
  clear h hp
  go_enter Tryz.func95, Tryz.ntmps95
  go_wp2_with fail
  refine HN.out.mono ?_
  rintro e w' ⟨rfl, rfl⟩
  go_wp2
  go_ret2
  exact ⟨rfl, rfl⟩
/-! Take. -/
theorem p_takeA0 (pb : Nat) (wr : World) {er : Int} (her : er = ptErr th hh tr) (hne : er ≠ 0) : Calls Tryz.prog 35 #[.pointer (some ⟨pb, 0, none⟩), .int .i64 th, .int .i64 hh, .int .i64 tr] wr fun e w' => e = .returned (.tuple #[.pointer none, .int .i64 er]) ∧ Keep Nil wr w' := by
  unfold ptErr at her
  by_cases h1 : th < 0 ∨ 64 ≤ th ∨ tr < 0 ∨ 255 < tr
  · rw [if_pos h1] at her
    rw [her]
    exact ptake_arg th hh tr h1
  · rw [if_neg h1] at her
    by_cases h2 : hh < 1 ∨ 6 < hh
    · rw [if_pos h2] at her
      rw [her]
      exact ptake_range th hh tr (by omega) (by omega) (by omega) (by omega) h2
    · rw [if_neg h2] at her
      exact absurd her hne
theorem p_takeB0 (qb : Nat) (wr : World) {er : Int} (her : er = ptErr th hh tr) (hne : er ≠ 0) : Calls Tryz.prog 36 #[.pointer (some ⟨qb, 0, none⟩), .int .i64 th, .int .i64 hh, .int .i64 tr] wr fun e w' => e = .returned (.tuple #[.pointer none, .int .i64 er]) ∧ Keep Nil wr w' := by
  unfold ptErr at her
  by_cases h1 : th < 0 ∨ 64 ≤ th ∨ tr < 0 ∨ 255 < tr
  · rw [if_pos h1] at her
    rw [her]
    exact r14take_arg th hh tr h1
  · rw [if_neg h1] at her
    by_cases h2 : hh < 1 ∨ 6 < hh
    · rw [if_pos h2] at her
      rw [her]
      exact r14take_range th hh tr (by omega) (by omega) (by omega) (by omega) h2
    · rw [if_neg h2] at her
      exact absurd her hne
def PNATo (w wr : World) (Lo : Nat → Prop) (c : Cfg) (pb mb L qb nb l : Nat) (s s' : PSt) (xs : List POb) (qs : List PO) (bl : List Nat) (o : PO) (e : Ending) (w' : World) : Prop :=
  ∃ x : POb, x.o = o ∧ e = .returned (.tuple #[ptrV x.tb, .int .i64 0]) ∧ PMT w w' Lo c pb mb L qb nb l s s' (xs ++ [x]) qs bl ∧ Keep (Out w Lo) wr w'
theorem p_takeA (h : PMT w wr Lo c pb mb L qb nb l s s' xs qs bl) (hok : c.ok) (he : ptErr th hh tr = 0) : Calls Tryz.prog 35 #[.pointer (some ⟨pb, 0, none⟩), .int .i64 th, .int .i64 hh, .int .i64 tr] wr (PNATo w wr Lo c pb mb L qb nb l s s' xs qs bl (PO.take th hh.toNat tr)) := by
  obtain ⟨t0, t1, k1, k6, r0, r1⟩ := ptErr_0 he
  refine (Two.call1x h (X := POb) (Φ := fun x e => newOb (PO.take th hh.toNat tr) e x) (s' := fun x => (s, xs ++ [x])) fun A hl => ?_).mono fun e w' ⟨x, ⟨h1, h2⟩, h3, h4⟩ => ⟨x, h1, h2, h3, h4⟩
  exact pools_take hl hok th hh tr t0 t1 k1 k6 r0 r1
def PNBTo (w wr : World) (Lo : Nat → Prop) (c : Cfg) (pb mb L qb nb l : Nat) (s s' : PSt) (xs : List POb) (qs : List PO) (bl : List Nat) (o : PO) (e : Ending) (w' : World) : Prop :=
  ∃ p, e = .returned (.tuple #[ptrV p, .int .i64 0]) ∧ PMT w w' Lo c pb mb L qb nb l s s' xs (qs ++ [o]) (bl ++ [p]) ∧ Keep (Out w Lo) wr w'
theorem p_takeB (h : PMT w wr Lo c pb mb L qb nb l s s' xs qs bl) (he : ptErr th hh tr = 0) : Calls Tryz.prog 36 #[.pointer (some ⟨qb, 0, none⟩), .int .i64 th, .int .i64 hh, .int .i64 tr] wr (PNBTo w wr Lo c pb mb L qb nb l s s' xs qs bl (PO.take th hh.toNat tr)) := by
  obtain ⟨t0, t1, k1, k6, r0, r1⟩ := ptErr_0 he
  refine (Two.call2x h (X := Nat) (Φ := fun p e => e = .returned (.tuple #[ptrV p, .int .i64 0])) (r' := fun p => (s', qs ++ [PO.take th hh.toNat tr], bl ++ [p])) (fun A hA => ?_)).mono fun e w' ⟨p, h1, h2, h3⟩ => ⟨p, h1, h2, h3⟩
  obtain ⟨F, ho⟩ := hA
  refine (r14take_ok th hh tr t0 t1 k1 k6 r0 r1).mono ?_
  rintro e w' ⟨p, rfl, h1, h2, h3⟩
  exact ⟨p, rfl, ho.newAt (o := PO.take th hh.toNat tr) h3 ((RPoolL c qb nb l).keep ho.sys h2 (fun _ _ h => h)) h1 (h2.mono (fun _ _ h => h.elim))⟩
/-! Give. -/
theorem p_giveA0 (h : PMT w wr Lo c pb mb L qb nb l s s' xs qs bl) (hok : c.ok) {er : Int} (her : er = pgErr c.nT s.out th tw) (hne : er ≠ 0) : Calls Tryz.prog 37 #[.pointer (some ⟨pb, 0, none⟩), .int .i64 th, .int .i64 tw] wr fun e w' => e = .returned (.tuple #[.pointer none, .int .i64 er]) ∧ Keep Nil wr w' := by
  obtain ⟨A, ob, gb, F, G, hpa⟩ := h.pa
  unfold pgErr at her
  by_cases h1 : th < 0 ∨ 64 ≤ th
  · rw [if_pos h1] at her
    rw [her]
    exact pgive_arg th tw h1
  · rw [if_neg h1] at her
    by_cases h2 : tw < 1 ∨ (c.nT : Int) < tw
    · rw [if_pos h2] at her
      rw [her]
      exact pgive_range hpa th tw (by omega) (by omega) h2
    · rw [if_neg h2] at her
      by_cases h3 : s.out tw = some false
      · rw [if_pos h3] at her
        exact absurd her hne
      · rw [if_neg h3] at her
        rw [her]
        exact pgive_state hpa hok th tw (by omega) (by omega) (by omega) (by omega) h3
theorem p_giveB0 (h : PMT w wr Lo c pb mb L qb nb l t s xs qs bl) {er : Int} (her : er = pgErr c.nT s.out th tw) (hne : er ≠ 0) : Calls Tryz.prog 38 #[.pointer (some ⟨qb, 0, none⟩), .int .i64 th, .int .i64 tw] wr fun e w' => e = .returned (.tuple #[.pointer none, .int .i64 er]) ∧ Keep Nil wr w' := by
  obtain ⟨A, tb, vb, gb, F, G, hpa⟩ := h.rpa
  unfold pgErr at her
  by_cases h1 : th < 0 ∨ 64 ≤ th
  · rw [if_pos h1] at her
    rw [her]
    exact r14give_arg th tw h1
  · rw [if_neg h1] at her
    by_cases h2 : tw < 1 ∨ (c.nT : Int) < tw
    · rw [if_pos h2] at her
      rw [her]
      exact r14give_range hpa th tw (by omega) (by omega) h2
    · rw [if_neg h2] at her
      by_cases h3 : s.out tw = some false
      · rw [if_pos h3] at her
        exact absurd her hne
      · rw [if_neg h3] at her
        rw [her]
        obtain ⟨n, rfl⟩ : ∃ n : Nat, tw = n := ⟨tw.toNat, by omega⟩
        exact r14give_state hpa th (by omega) (by omega) n (by omega) (by omega) h3
theorem p_giveA (h : PMT w wr Lo c pb mb L qb nb l s s' xs qs bl) (hok : c.ok) (he : pgErr c.nT s.out th tw = 0) {k : Nat} (hk : c.hs[tw.toNat - 1]? = some k) : Calls Tryz.prog 37 #[.pointer (some ⟨pb, 0, none⟩), .int .i64 th, .int .i64 tw] wr (PNATo w wr Lo c pb mb L qb nb l { s with out := pup s.out tw (some true) } s' xs qs bl (PO.give th k tw)) := by
  obtain ⟨t0, t1, g1, g2, hs⟩ := pgErr_0 he
  refine (Two.call1x h (X := POb) (Φ := fun x e => newOb (PO.give th k tw) e x) (s' := fun x => ({ s with out := pup s.out tw (some true) }, xs ++ [x])) fun A hl => ?_).mono fun e w' ⟨x, ⟨h1, h2⟩, h3, h4⟩ => ⟨x, h1, h2, h3, h4⟩
  exact pools_give hl hok th tw t0 t1 g1 g2 hs k hk
theorem p_giveB (h : PMT w wr Lo c pb mb L qb nb l t s xs qs bl) (hok : c.ok) (he : pgErr c.nT s.out th tw = 0) {k : Nat} (hk : c.hs[tw.toNat - 1]? = some k) : Calls Tryz.prog 38 #[.pointer (some ⟨qb, 0, none⟩), .int .i64 th, .int .i64 tw] wr (PNBTo w wr Lo c pb mb L qb nb l t { s with out := pup s.out tw (some true) } xs qs bl (PO.give th k tw)) := by
  obtain ⟨t0, t1, g1, g2, hs⟩ := pgErr_0 he
  obtain ⟨n, hn⟩ : ∃ n : Nat, tw = (n : Int) + 1 := ⟨(tw - 1).toNat, by omega⟩
  subst hn
  rw [show ((n : Int) + 1).toNat - 1 = n by omega] at hk
  refine (Two.call2x h (X := Nat) (Φ := fun p e => e = .returned (.tuple #[ptrV p, .int .i64 0])) (r' := fun p => ({ s with out := pup s.out ((n : Int) + 1) (some true) }, qs ++ [PO.give th k ((n : Int) + 1)], bl ++ [p])) (fun A hA => ?_)).mono fun e w' ⟨p, h1, h2, h3⟩ => ⟨p, h1, h2, h3⟩
  obtain ⟨F, ho⟩ := hA
  obtain ⟨tb, vb, gb, F1, G, hp⟩ := ho.sys
  refine (r14give_ok hp hok th t0 t1 n (by omega) hs k hk).mono ?_
  rintro e w' ⟨p, rfl, h1, h2, h3, h4⟩
  exact ⟨p, rfl, ho.newAt (o := PO.give th k ((n : Int) + 1)) h4 h1 h2 h3⟩
/-! A step of both. -/
def PSA (w wr : World) (Lo : Nat → Prop) (c : Cfg) (pb mb L qb nb l : Nat) (s s' : PSt) (xs : List POb) (qs : List PO) (bl : List Nat) (pc : Int) (done : Bool) (e : Ending) (w' : World) : Prop :=
  e = .returned (.tuple #[.int .u8 pc, .bool done]) ∧ PMT w w' Lo c pb mb L qb nb l s s' xs qs bl ∧ Keep (Out w Lo) wr w'
structure PStp (w wr : World) (Lo : Nat → Prop) (c : Cfg) (pb mb L qb nb l : Nat) (s : PSt) (xs : List POb) (qs : List PO) (bl : List Nat) (k p : Nat) (x : POb) (pc : Int) (done : Bool) (s' : PSt) (o' : PO) : Prop where
  ta : x.o.gv = false → Calls Tryz.prog 90 #[.pointer (some ⟨x.tb, 0, none⟩)] wr (PSA w wr Lo c pb mb L qb nb l s' s (xs.set k { x with o := o' }) qs bl pc done)
  ga : x.o.gv = true → Calls Tryz.prog 95 #[.pointer (some ⟨x.tb, 0, none⟩)] wr (PSA w wr Lo c pb mb L qb nb l s' s (xs.set k { x with o := o' }) qs bl pc done)
  b : ∀ (w1 : World) (xs1 : List POb), PMT w w1 Lo c pb mb L qb nb l s' s xs1 qs bl → Calls Tryz.prog 91 #[.pointer (some ⟨p, 0, none⟩)] w1 (PSA w w1 Lo c pb mb L qb nb l s' s' xs1 (qs.set k o') bl pc done)
  gv : o'.gv = x.o.gv
  inv : ∃ L' sw', QInv c s' (qs.set k o') L' sw'
  log : s'.log.length ≤ s.log.length + 1
theorem pset_self {α : Type} {l : List α} {k : Nat} {x : α} (h : l[k]? = some x) : l.set k x = l := by
  apply List.ext_getElem?
  intro i
  rw [List.getElem?_set]
  split
  · next e => subst e; rw [h]; simp [(List.getElem?_eq_some_iff.1 h).1]
  · rfl
theorem op_gv (o : PO) (x : Int) : (o.op x).gv = o.gv := by
  unfold PO.op
  repeat' split
  all_goals rfl
theorem st_log (c : Cfg) (o : PO) (s : PSt) (x : Int) : (o.st c s x).log.length ≤ s.log.length + 1 := by
  unfold PO.st
  repeat' split
  all_goals simp
theorem p_step (h : PMT w wr Lo c pb mb L qb nb l s s xs qs bl) (hi : QInv c s qs Lst sw) (hok : c.ok) (hl : s.log.length < 1000000) {k p : Nat} {x : POb} (hx : xs[k]? = some x) (hq : qs[k]? = some x.o) (hb : bl[k]? = some p) :
    ∃ pc done s' o', PStp w wr Lo c pb mb L qb nb l s xs qs bl k p x pc done s' o' := by
  by_cases hp : x.o.pc = 0
  · refine ⟨0, false, s, x.o, fun hg => ?_, fun hg => ?_, fun w1 xs1 h1 => ?_, rfl, ⟨Lst, sw, by rw [pset_self hq]; exact hi⟩, by omega⟩
    · refine (tstep_idle (PMT.tk h hx hg) hp).mono ?_
      rintro e w' ⟨rfl, rfl⟩
      exact ⟨rfl, by rw [pset_self hx]; exact h, Keep.refl _ _⟩
    · refine (gstep_idle (PMT.gv h hx hg) hp).mono ?_
      rintro e w' ⟨rfl, rfl⟩
      exact ⟨rfl, by rw [pset_self hx]; exact h, Keep.refl _ _⟩
    · refine (r14idle (PMT.rob h1 hb hq) hp).mono ?_
      rintro e w' ⟨rfl, rfl⟩
      exact ⟨rfl, by rw [pset_self hq]; exact h1, Keep.refl _ _⟩
  · obtain ⟨v, hv⟩ := hi.word hq hp
    have hr := hi.rgo hok.nT hl hq hp hv
    have hn : ONum x.o s := ⟨hr.t0, hr.t1, hr.h1, hr.h6, hr.lg⟩
    obtain ⟨L', sw', hi'⟩ := hi.step hok.nT hq hp hv
    refine ⟨x.o.pc, (x.o.op v).pc == 0, x.o.st c s v, x.o.op v, fun hg => ?_, fun hg => ?_, fun w1 xs1 h1 => ?_, op_gv _ _, ⟨L', sw', hi'⟩, st_log c x.o s v⟩
    · refine (Two.call1 h (Φ := fun e _ => e = .returned (.tuple #[.int .u8 x.o.pc, .bool ((x.o.op v).pc == 0)])) (s' := (x.o.st c s v, xs.set k { x with o := x.o.op v })) (fun A hA => ?_)).mono fun e w' ⟨h1, h2, h3⟩ => ⟨h1, h2, h3⟩
      exact pools_tstep hA hok hx hg hn (by rcases hr.pc with e | ⟨e, e1⟩ | ⟨e, e1⟩ <;> first | omega | (rw [hg] at e; cases e)) hr.pgo hv
    · refine (Two.call1 h (Φ := fun e _ => e = .returned (.tuple #[.int .u8 x.o.pc, .bool ((x.o.op v).pc == 0)])) (s' := (x.o.st c s v, xs.set k { x with o := x.o.op v })) (fun A hA => ?_)).mono fun e w' ⟨h1, h2, h3⟩ => ⟨h1, h2, h3⟩
      exact pools_gstep hA hok hx hg hn (by rcases hr.pc with e | ⟨e, e1⟩ | ⟨e, e1⟩ <;> first | omega | (rw [hg] at e; cases e)) hr.pgo hv
    · refine (Two.call2 h1 (Φ := fun e _ => e = .returned (.tuple #[.int .u8 x.o.pc, .bool ((x.o.op v).pc == 0)])) (r' := (x.o.st c s v, qs.set k (x.o.op v), bl)) (fun A hA => ?_)).mono fun e w' ⟨h1, h2, h3⟩ => ⟨h1, h2, h3⟩
      obtain ⟨F', ho⟩ := hA
      obtain ⟨tb, vb, gb, F1, G', hsp⟩ := ho.sys
      obtain ⟨hat, nA⟩ := ho.objs k p x.o hb hq
      refine (r14step hsp hat nA hok hr hv).mono ?_
      rintro e w' ⟨rfl, B', q1, q2, q3, q4⟩
      have hz : p < w1.heap.size := lt_of_block hat
      exact ⟨rfl, ho.one (t := k) (b := p) hb q1 q2 q3 q4 (fun e => (q4 p e).elim nA (fun e => by omega))⟩
/-- What Next and Result say, on either side. -/
theorem r14res (h : RRunAt w tb pb o) (hg : o.gv = false) (a b e : Int) (hr : PO.res o = (a, b, e)) : Calls Tryz.prog 93 #[.pointer (some ⟨tb, 0, none⟩)] w fun e' w' => e' = .returned (.tuple #[.int .i64 a, .int .i64 b, .int .i64 e]) ∧ Keep Nil w w' := by
  unfold PO.res at hr
  by_cases hp : o.pc = 0
  · rw [if_pos hp] at hr
    simp only [Prod.mk.injEq] at hr
    obtain ⟨rfl, rfl, rfl⟩ := hr
    exact r14res1 h hp hg
  · rw [if_neg hp] at hr
    simp only [Prod.mk.injEq] at hr
    obtain ⟨rfl, rfl, rfl⟩ := hr
    exact r14res0 h hp
/-! Out, List, Gen. -/
theorem p_outA (h : PMT w wr Lo c pb mb L qb nb l s s' xs qs bl) (hi : QInv c s qs Lst sw) (hok : c.ok) : Calls Tryz.prog 41 #[.pointer (some ⟨pb, 0, none⟩)] wr (OutTo wr (outL c.nT s.out)) := by
  obtain ⟨A, ob, gb, F, G, hpa⟩ := h.pa
  exact pout_ok hpa hok (fun x hx => ((hi.si.out x).1 hx).1)
theorem p_outB (h : PMT w wr Lo c pb mb L qb nb l t s xs qs bl) (hok : c.ok) : Calls Tryz.prog 42 #[.pointer (some ⟨qb, 0, none⟩)] wr (ROutTo wr (outL c.nT s.out)) := by
  obtain ⟨A, tb, vb, gb, F, G, hpa⟩ := h.rpa
  exact r14out_ok hpa hok
end
end Go.Proofs.YtjghenomeindcaaGreat
