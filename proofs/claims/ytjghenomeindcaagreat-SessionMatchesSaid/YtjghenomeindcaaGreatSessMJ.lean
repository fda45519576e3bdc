/- SessionMatches: the two sides together: contracts. -/
import Derived.Test.YtjghenomeindcaaGreatSessG
import Derived.Test.YtjghenomeindcaaGreatRef30
import Derived.Test.YtjghenomeindcaaGreatSessNames
set_option linter.unusedVariables false
set_option linter.unusedSimpArgs false
namespace Go.Lf
/-- How the two openings stand to each other. -/
def OJ (n : Nat) (t : Int) (s : OS) (q : RO) : Prop :=
  q.t = t ∧ 0 ≤ t ∧ t < 64 ∧
  ((∃ j, j < n ∧ s = ⟨List.range' j (n - j), 0, 0⟩ ∧ q.slot = (j : Int) ∧ q.over = false ∧ q.err = 0) ∨
   (s.left = [] ∧ q.over = true ∧ q.slot = s.slot ∧ q.err = s.err))
theorem OJ.init {n : Nat} (hn : 0 < n) {t : Int} (t0 : 0 ≤ t) (t1 : t < 64) : OJ n t ⟨List.range n, 0, 0⟩ ⟨t, 0, false, 0⟩ :=
  ⟨rfl, t0, t1, .inl ⟨0, hn, by rw [List.range_eq_range', Nat.sub_zero], rfl, rfl, rfl⟩⟩
def clErr (n : Nat) (ws : List Int) (t slot : Int) : Int := if t < 0 ∨ 64 ≤ t then 2 else if slot < 0 ∨ (n : Int) ≤ slot then 3 else if ws[slot.toNat]? = some (t + 1) then 0 else 8
def clTo (n : Nat) (x : List Int × List Acc) (t slot : Int) : List Int × List Acc := if clErr n x.1 t slot = 0 then (x.1.set slot.toNat 0, x.2 ++ [⟨t, slot, 2, t + 1, 0, false⟩]) else x
theorem clTo_len (n : Nat) (x : List Int × List Acc) (t slot : Int) : (clTo n x t slot).1.length = x.1.length ∧ (clTo n x t slot).2.length ≤ x.2.length + 1 := by
  unfold clTo
  split <;> simp
theorem set_wf2 {ws : List Int} (h : ∀ x ∈ ws, 0 ≤ x ∧ x < 18446744073709551616) (k : Nat) {v : Int} (hv : 0 ≤ v ∧ v < 18446744073709551616) : ∀ x ∈ ws.set k v, 0 ≤ x ∧ x < 18446744073709551616 := fun x hx => by
  rcases List.mem_or_eq_of_mem_set hx with e | e
  · exact h x e
  · exact e ▸ hv
theorem clTo_wf {n : Nat} {x : List Int × List Acc} (h : ∀ y ∈ x.1, 0 ≤ y ∧ y < 18446744073709551616) (t slot : Int) : ∀ y ∈ (clTo n x t slot).1, 0 ≤ y ∧ y < 18446744073709551616 := by
  unfold clTo
  split
  · exact set_wf2 h _ (by decide)
  · exact h
end Go.Lf
namespace Go.Proofs.YtjghenomeindcaaGreat
open Go.RowKit Go.Lf
def ptrV (k : Nat) : Value := .pointer (some ⟨k, 0, none⟩)
abbrev SMT (w wr : World) (L : Nat → Prop) (c : Cfg) (b mb rb rm ll : Nat) (x y : List Int × List Acc) (xs : List OO) (qs : List RO) (bl : List Nat) : Prop :=
  Two (SesL c b mb) ((RStoreF c rb rm ll).objs (ROpO rb)) w L (x, xs.map some) (y, qs, bl) wr
section
variable {w wr w' : World} {L : Nat → Prop} {c : Cfg} {b mb rb rm ll : Nat} {x y : List Int × List Acc} {xs : List OO} {qs : List RO} {bl : List Nat} {t slot : Int}
set_option maxHeartbeats 1000000 in
theorem sstep_idle (t : Int) {ob bb : Nat} {s : OS} {a : Option Addr} {cp : Nat} (h : OpenAt wr ob bb t s a cp) (hl : s.left.length = 0) : Calls Tryz.prog 9 #[.pointer (some ⟨ob, 0, none⟩)] wr fun e w' => e = .returned (.tuple #[.int .u8 0, .bool false]) ∧ Keep Nil wr w' := by
  have z := lt_of_block h.head
  have c2 : wr.cell? ⟨ob, 2, none⟩ = some (.slice a s.left.length cp) := by rw [cell_of h.head]; rfl
  have d0 : ((s.left.length : Int) == 0) = true := beq_iff_eq.2 (by omega)
  rw [hl] at c2
  clear h hl d0
  go_enter Tryz.func9, Tryz.ntmps9
  go_wp2
  go_ret2
  exact ⟨rfl, Keep.refl Nil wr⟩
theorem SMT.sp (h : SMT w wr L c b mb rb rm ll x y xs qs bl) : ∃ A L F G, SP wr A c b mb L F G x.1 x.2 := SesG.sp (ws := x.1) (log := x.2) h
theorem SMT.rp (h : SMT w wr L c b mb rb rm ll x y xs qs bl) : ∃ B F G, RP wr B c rb rm ll F G y.1 y.2 := by
  obtain ⟨A, F, ho⟩ := h.has2
  obtain ⟨F1, G, hp⟩ := ho.sys
  exact ⟨F, F1, G, hp⟩
theorem SMT.ob (h : SMT w wr L c b mb rb rm ll x y xs qs bl) {k : Nat} {o : OO} (hx : xs[k]? = some o) : OpenAt wr o.o b o.t o.s o.a o.cp :=
  SesG.ob (ws := x.1) (log := x.2) h (k := k) (by rw [List.getElem?_map, hx]; rfl)
theorem SMT.rob (h : SMT w wr L c b mb rb rm ll x y xs qs bl) {k p : Nat} {q : RO} (hb : bl[k]? = some p) (hq : qs[k]? = some q) : ROAt wr p rb q := by
  obtain ⟨A, F, ho⟩ := h.has2
  exact (ho.objs k p q hb hq).1
def SNATo (w wr : World) (L : Nat → Prop) (c : Cfg) (b mb rb rm ll : Nat) (x y : List Int × List Acc) (xs : List OO) (qs : List RO) (bl : List Nat) (t : Int) (e : Ending) (w' : World) : Prop :=
  ∃ o : OO, o.t = t ∧ o.s = ⟨List.range c.sl, 0, 0⟩ ∧ e = .returned (.tuple #[ptrV o.o, .int .i64 0]) ∧ SMT w w' L c b mb rb rm ll x y (xs ++ [o]) qs bl ∧ Keep (Out w L) wr w'
theorem s_newA (h : SMT w wr L c b mb rb rm ll x y xs qs bl) (hok : c.ok) (t0 : 0 ≤ t) (t1 : t < 64) : Calls Tryz.prog 8 #[.pointer (some ⟨b, 0, none⟩), .int .i64 t] wr (SNATo w wr L c b mb rb rm ll x y xs qs bl t) := by
  refine (j_new (ws := x.1) (log := x.2) h hok t0 t1).mono ?_
  rintro e w' ⟨o, h1, h2, h3, h4, h5⟩
  exact ⟨o, h1, h2, h3, by show Two _ _ _ _ (x, (xs ++ [o]).map some) _ _; rw [List.map_append]; exact h4, h5⟩
def SNBTo (w wr : World) (L : Nat → Prop) (c : Cfg) (b mb rb rm ll : Nat) (x y : List Int × List Acc) (xs : List OO) (qs : List RO) (bl : List Nat) (t : Int) (e : Ending) (w' : World) : Prop :=
  ∃ p, e = .returned (.tuple #[ptrV p, .int .i64 0]) ∧ SMT w w' L c b mb rb rm ll x y xs (qs ++ [⟨t, 0, false, 0⟩]) (bl ++ [p]) ∧ Keep (Out w L) wr w'
theorem s_newB (h : SMT w wr L c b mb rb rm ll x y xs qs bl) (t0 : 0 ≤ t) (t1 : t < 64) : Calls Tryz.prog 50 #[.pointer (some ⟨rb, 0, none⟩), .int .i64 t] wr (SNBTo w wr L c b mb rb rm ll x y xs qs bl t) := by
  refine (Two.call2 h (Φ := fun e _ => e = .returned (.tuple #[ptrV wr.heap.size, .int .i64 0])) (r' := (y, qs ++ [⟨t, 0, false, 0⟩], bl ++ [wr.heap.size])) (fun A hA => ?_)).mono fun e w' ⟨h1, h2, h3⟩ => ⟨wr.heap.size, h1, h2, h3⟩
  obtain ⟨F, ho⟩ := hA
  obtain ⟨F1, G, hsp⟩ := ho.sys
  refine (r30new_ok t0 t1).mono ?_
  rintro e w' ⟨rfl, h1, h2⟩
  exact ⟨rfl, ho.new (o := ⟨t, 0, false, 0⟩) ⟨F1, G, hsp.quiet h2⟩ h1 (h2.mono (fun _ _ h => h.elim))⟩
def SClA (w wr : World) (L : Nat → Prop) (c : Cfg) (b mb rb rm ll : Nat) (x y : List Int × List Acc) (xs : List OO) (qs : List RO) (bl : List Nat) (er : Int) (x' : List Int × List Acc) (e : Ending) (w' : World) : Prop :=
  e = .returned (.int .i64 er) ∧ SMT w w' L c b mb rb rm ll x' y xs qs bl ∧ Keep (Out w L) wr w'
theorem out_nil {w wr w' : World} {L : Nat → Prop} (h : Keep Nil wr w') : Keep (Out w L) wr w' := h.mono (fun _ _ h => h.elim)
theorem s_closeA (h : SMT w wr L c b mb rb rm ll x y xs qs bl) (hok : c.ok) (hlen : c.sl ≤ x.1.length) (hlog : x.2.length < 1000000000000) (t slot : Int) :
    Calls Tryz.prog 12 #[.pointer (some ⟨b, 0, none⟩), .int .i64 t, .int .i64 slot] wr (SClA w wr L c b mb rb rm ll x y xs qs bl (clErr c.sl x.1 t slot) (clTo c.sl x t slot)) := by
  unfold clTo clErr
  by_cases h1 : t < 0 ∨ 64 ≤ t
  · rw [if_pos h1, if_neg (by decide)]
    refine (j_close_bad b wr h1).mono ?_
    rintro e w' ⟨rfl, hk⟩
    exact ⟨rfl, h.quiet hk, out_nil hk⟩
  rw [if_neg h1]
  by_cases h2 : slot < 0 ∨ (c.sl : Int) ≤ slot
  · rw [if_pos h2, if_neg (by decide)]
    refine (j_close_range (ws := x.1) (log := x.2) h hok (by omega) (by omega) h2).mono ?_
    rintro e w' ⟨rfl, hk⟩
    exact ⟨rfl, h.quiet hk, out_nil hk⟩
  rw [if_neg h2]
  by_cases h3 : x.1[slot.toNat]? = some (t + 1)
  · rw [if_pos h3, if_pos rfl]
    refine (j_close (ws := x.1) (log := x.2) h hok (by omega) (by omega) (by omega) (by omega) h3 hlog).mono ?_
    rintro e w' ⟨rfl, h4, hk⟩
    exact ⟨rfl, h4, hk⟩
  · rw [if_neg h3, if_neg (by decide)]
    have hx : x.1[slot.toNat]? = some (x.1[slot.toNat]'(by omega)) := List.getElem?_eq_getElem _
    refine (j_close_state (ws := x.1) (log := x.2) h hok (by omega) (by omega) (by omega) (by omega) hx (fun e => h3 (by rw [hx, e]))).mono ?_
    rintro e w' ⟨rfl, hk⟩
    exact ⟨rfl, h.quiet hk, out_nil hk⟩
def SClB (w wr : World) (L : Nat → Prop) (c : Cfg) (b mb rb rm ll : Nat) (x y : List Int × List Acc) (xs : List OO) (qs : List RO) (bl : List Nat) (er : Int) (y' : List Int × List Acc) (e : Ending) (w' : World) : Prop :=
  e = .returned (.int .i64 er) ∧ SMT w w' L c b mb rb rm ll x y' xs qs bl ∧ Keep (Out w L) wr w'
theorem s_closeB (h : SMT w wr L c b mb rb rm ll x y xs qs bl) (hok : c.ok) (hlen : c.sl ≤ y.1.length) (hlog : y.2.length < 1000000000000) (t slot : Int) :
    Calls Tryz.prog 51 #[.pointer (some ⟨rb, 0, none⟩), .int .i64 t, .int .i64 slot] wr (SClB w wr L c b mb rb rm ll x y xs qs bl (clErr c.sl y.1 t slot) (clTo c.sl y t slot)) := by
  unfold clTo clErr
  have hsl : c.sl ≤ 64 := hok.sl2
  by_cases h1 : t < 0 ∨ 64 ≤ t
  · rw [if_pos h1, if_neg (by decide)]
    refine (r30close_bad (rb := rb) (slot := slot) h1).mono ?_
    rintro e w' ⟨rfl, rfl⟩
    exact ⟨rfl, h, Keep.refl _ _⟩
  rw [if_neg h1]
  obtain ⟨B, F, G, hp⟩ := h.rp
  by_cases h2 : slot < 0 ∨ (c.sl : Int) ≤ slot
  · rw [if_pos h2, if_neg (by decide)]
    refine (r30close_range hp (by omega) (by omega) h2).mono ?_
    rintro e w' ⟨rfl, rfl⟩
    exact ⟨rfl, h, Keep.refl _ _⟩
  rw [if_neg h2]
  have hs : slot = ((slot.toNat : Nat) : Int) := by omega
  by_cases h3 : y.1[slot.toNat]? = some (t + 1)
  · rw [if_pos h3, if_pos rfl]
    refine (Two.call2 h (Φ := fun e _ => e = .returned (.int .i64 0)) (r' := ((y.1.set slot.toNat 0, y.2 ++ [⟨t, slot, 2, t + 1, 0, false⟩]), qs, bl)) (fun A hA => ?_)).mono fun e w' ⟨h1, h2, h3⟩ => ⟨h1, h2, h3⟩
    obtain ⟨F', ho⟩ := hA
    obtain ⟨F1, G', hsp⟩ := ho.sys
    refine (r30close_ok hsp (by omega) (by omega) slot.toNat (by omega) hsl hs h3 hlog).mono ?_
    rintro e w' ⟨rfl, F2, q1, q2, q3⟩
    rw [← hs] at q1
    exact ⟨rfl, ho.none q1 q2 q3⟩
  · rw [if_neg h3, if_neg (by decide)]
    have hx : y.1[slot.toNat]? = some (y.1[slot.toNat]'(by omega)) := List.getElem?_eq_getElem _
    refine (r30close_state hp (by omega) (by omega) slot.toNat (by omega) hsl hs hx (fun e => h3 (by rw [hx, e]))).mono ?_
    rintro e w' ⟨rfl, hk⟩
    exact ⟨rfl, h.quiet hk, out_nil hk⟩
/-! A step of both. -/
def SSA (w wr : World) (L : Nat → Prop) (c : Cfg) (b mb rb rm ll : Nat) (x y : List Int × List Acc) (xs : List OO) (qs : List RO) (bl : List Nat) (k : Nat) (o : OO) (s' : OS) (pc : Int) (done : Bool) (e : Ending) (w' : World) : Prop :=
  e = .returned (.tuple #[.int .u8 pc, .bool done]) ∧ ∃ o' : OO, o'.o = o.o ∧ o'.t = o.t ∧ o'.s = s' ∧ SMT w w' L c b mb rb rm ll x y (xs.set k o') qs bl ∧ Keep (Out w L) wr w'
def SSB (w wr : World) (L : Nat → Prop) (c : Cfg) (b mb rb rm ll : Nat) (x y : List Int × List Acc) (xs : List OO) (qs : List RO) (bl : List Nat) (pc : Int) (done : Bool) (e : Ending) (w' : World) : Prop :=
  e = .returned (.tuple #[.int .u8 pc, .bool done]) ∧ SMT w w' L c b mb rb rm ll x y xs qs bl ∧ Keep (Out w L) wr w'
/-- What a step does, on either side. -/
structure SStp (w wr : World) (L : Nat → Prop) (c : Cfg) (b mb rb rm ll : Nat) (x : List Int × List Acc) (xs : List OO) (qs : List RO) (bl : List Nat) (k p : Nat) (o : OO) (q : RO) (pc : Int) (done : Bool) (x' : List Int × List Acc) (s' : OS) (q' : RO) : Prop where
  a : Calls Tryz.prog 9 #[ptrV o.o] wr (SSA w wr L c b mb rb rm ll x' x xs qs bl k o s' pc done)
  b : ∀ (w1 : World) (xs1 : List OO), SMT w w1 L c b mb rb rm ll x' x xs1 qs bl → Calls Tryz.prog 54 #[ptrV p] w1 (SSB w w1 L c b mb rb rm ll x' x' xs1 (qs.set k q') bl pc done)
  oj : OJ c.sl o.t s' q'
  len : x'.1.length = x.1.length
  wf : ∀ v ∈ x'.1, 0 ≤ v ∧ v < 18446744073709551616
  log : x'.2.length ≤ x.2.length + 1
theorem s_b {k p : Nat} {q : RO} (hq : qs[k]? = some q) (hb : bl[k]? = some p) {x y : List Int × List Acc} {ac : Acc} {ws' : List Int} {q' : RO} {done : Bool}
    (hc : ∀ (w1 : World) B F G, RP w1 B c rb rm ll F G y.1 y.2 → ROAt w1 p rb q → ¬ B p → Calls Tryz.prog 54 #[ptrV p] w1 (R30To w1 B c rb rm ll p ws' (y.2 ++ [ac]) q' done)) (w1 : World) (xs1 : List OO) (h : SMT w w1 L c b mb rb rm ll x y xs1 qs bl) :
    Calls Tryz.prog 54 #[ptrV p] w1 (SSB w w1 L c b mb rb rm ll x (ws', y.2 ++ [ac]) xs1 (qs.set k q') bl 35 done) := by
  refine (Two.call2 h (Φ := fun e _ => e = .returned (.tuple #[.int .u8 35, .bool done])) (r' := ((ws', y.2 ++ [ac]), qs.set k q', bl)) (fun A hA => ?_)).mono fun e w' ⟨h1, h2, h3⟩ => ⟨h1, h2, h3⟩
  obtain ⟨F', ho⟩ := hA
  obtain ⟨F1, G', hsp⟩ := ho.sys
  obtain ⟨hat, nA⟩ := ho.objs k p q hb hq
  refine (hc w1 F' F1 G' hsp hat nA).mono ?_
  rintro e w' ⟨rfl, B', q1, q2, q3, q4⟩
  have hz : p < w1.heap.size := lt_of_block hat
  exact ⟨rfl, ho.one (t := k) (b := p) hb q1 q2 q3 q4 (fun e => (q4 p e).elim nA (fun e => by omega))⟩
theorem set_self {α : Type} {l : List α} {k : Nat} {x : α} (h : l[k]? = some x) : l.set k x = l := by
  apply List.ext_getElem?
  intro i
  rw [List.getElem?_set]
  split
  · next e => subst e; rw [h]; simp [(List.getElem?_eq_some_iff.1 h).1]
  · rfl
theorem s_step (h : SMT w wr L c b mb rb rm ll x x xs qs bl) (hok : c.ok) (hlen : c.sl ≤ x.1.length) (hwf : ∀ v ∈ x.1, 0 ≤ v ∧ v < 18446744073709551616) (hlog : x.2.length < 1000000000000) {k p : Nat} {o : OO} {q : RO} (hx : xs[k]? = some o) (hq : qs[k]? = some q) (hb : bl[k]? = some p) (hj : OJ c.sl o.t o.s q) :
    ∃ pc done x' s' q', SStp w wr L c b mb rb rm ll x xs qs bl k p o q pc done x' s' q' := by
  have hx' : (xs.map some)[k]? = some (some o) := by rw [List.getElem?_map, hx]; rfl
  have hsl : c.sl ≤ 64 := hok.sl2
  obtain ⟨e1, t0, t1, hcase⟩ := hj
  rcases hcase with ⟨j, hjn, hs, e2, e3, e4⟩ | ⟨e2, e3, e4, e5⟩
  · have hxj : x.1[j]? = some (x.1[j]'(by omega)) := List.getElem?_eq_getElem _
    obtain ⟨v, hv⟩ : ∃ v, v = x.1[j]'(by omega) := ⟨_, rfl⟩
    rw [← hv] at hxj
    have hrng : List.range' j (c.sl - j) = j :: List.range' (j + 1) (c.sl - (j + 1)) := by
      rw [show c.sl - j = (c.sl - (j + 1)) + 1 by omega, List.range'_succ]
    have hleft : o.s.left = j :: List.range' (j + 1) (c.sl - (j + 1)) := by rw [hs]; exact hrng
    by_cases hv0 : v = 0
    · refine ⟨35, true, (x.1.set j (o.t + 1), x.2 ++ [⟨o.t, j, 4, 0, o.t + 1, true⟩]), ⟨[], j, 0⟩, ⟨q.t, q.slot, true, q.err⟩, ?_, ?_, ?_, ?_, ?_, ?_⟩
      · refine (j_yes (ws := x.1) (log := x.2) h hok hx' hleft (by omega) t0 t1 (by rw [hxj, hv0]) hlog).mono ?_
        rintro e w' ⟨rfl, y, h1, h2, h3, h4, h5⟩
        exact ⟨rfl, y, h1, h2, by rw [h3, hs], by show Two _ _ _ _ (_, (xs.set k y).map some) _ _; rw [List.map_set]; exact h4, h5⟩
      · intro w1 xs1 h1
        refine s_b hq hb (fun w1 B F G hp ha hn => ?_) w1 xs1 h1
        have := r30step_yes hp ha hn hok e3 (by omega) (by omega) j (by omega) e2 hxj hv0 hlog
        rw [e1] at this
        rw [e1]
        exact this
      · exact ⟨e1, t0, t1, .inr ⟨rfl, rfl, e2, e4⟩⟩
      · simp
      · exact set_wf2 hwf _ (by omega)
      · simp
    · by_cases hl : j + 1 = c.sl
      · have hleft1 : o.s.left = [j] := by rw [hleft, show c.sl - (j + 1) = 0 by omega]; rfl
        refine ⟨35, true, (x.1, x.2 ++ [⟨o.t, j, 4, v, v, false⟩]), ⟨[], 0, 10⟩, ⟨q.t, 0, true, 10⟩, ?_, ?_, ?_, ?_, ?_, ?_⟩
        · refine (j_last (ws := x.1) (log := x.2) h hok hx' hleft1 (by omega) t0 t1 hxj hv0 hlog).mono ?_
          rintro e w' ⟨rfl, y, h1, h2, h3, h4, h5⟩
          exact ⟨rfl, y, h1, h2, by rw [h3, hs], by show Two _ _ _ _ (_, (xs.set k y).map some) _ _; rw [List.map_set]; exact h4, h5⟩
        · intro w1 xs1 h1
          refine s_b hq hb (fun w1 B F G hp ha hn => ?_) w1 xs1 h1
          have := r30step_last hp ha hn hok e3 (by omega) (by omega) j (by omega) e2 hxj hv0 hl hlog
          rw [e1] at this
          rw [e1]
          exact this
        · exact ⟨e1, t0, t1, .inr ⟨rfl, rfl, rfl, rfl⟩⟩
        · rfl
        · exact hwf
        · simp
      · have hleft2 : o.s.left = j :: (j + 1) :: List.range' (j + 2) (c.sl - (j + 2)) := by
          rw [hleft, show c.sl - (j + 1) = (c.sl - (j + 2)) + 1 by omega, List.range'_succ]
        refine ⟨35, false, (x.1, x.2 ++ [⟨o.t, j, 4, v, v, false⟩]), ⟨List.range' (j + 1) (c.sl - (j + 1)), 0, 0⟩, ⟨q.t, q.slot + 1, false, q.err⟩, ?_, ?_, ?_, ?_, ?_, ?_⟩
        · refine (j_more (ws := x.1) (log := x.2) h hok hx' hleft2 (by omega) t0 t1 hxj hv0 hlog).mono ?_
          rintro e w' ⟨rfl, y, h1, h2, h3, h4, h5⟩
          refine ⟨rfl, y, h1, h2, ?_, by show Two _ _ _ _ (_, (xs.set k y).map some) _ _; rw [List.map_set]; exact h4, h5⟩
          rw [h3, hs, show c.sl - (j + 1) = (c.sl - (j + 2)) + 1 by omega, List.range'_succ]
        · intro w1 xs1 h1
          refine s_b hq hb (fun w1 B F G hp ha hn => ?_) w1 xs1 h1
          have := r30step_more hp ha hn hok e3 (by omega) (by omega) j (by omega) e2 hxj hv0 (by omega) hlog
          rw [e1] at this
          rw [e1]
          exact this
        · exact ⟨e1, t0, t1, .inl ⟨j + 1, by omega, rfl, by show q.slot + 1 = _; omega, rfl, e4⟩⟩
        · rfl
        · exact hwf
        · simp
  · refine ⟨0, false, x, o.s, q, ?_, ?_, ⟨e1, t0, t1, .inr ⟨e2, e3, e4, e5⟩⟩, rfl, hwf, by omega⟩
    · refine (sstep_idle o.t (h.ob hx) (by rw [e2]; rfl)).mono ?_
      rintro e w' ⟨rfl, hk⟩
      exact ⟨rfl, o, rfl, rfl, rfl, by rw [set_self hx]; exact h.quiet hk, out_nil hk⟩
    · intro w1 xs1 h1
      refine (r30idle (h1.rob hb hq) e3).mono ?_
      rintro e w' ⟨rfl, rfl⟩
      exact ⟨rfl, by rw [set_self hq]; exact h1, Keep.refl _ _⟩
/-- What Next and Result say, on either side. -/
theorem s_next {o : OO} {q : RO} {p : Nat} (hj : OJ c.sl o.t o.s q) : ∃ v : Int, (∀ w1, OpenAt w1 o.o b o.t o.s o.a o.cp → Calls Tryz.prog 11 #[ptrV o.o] w1 fun e w' => e = .returned (.int .u8 v) ∧ w1 = w') ∧
    (∀ w1, ROAt w1 p rb q → Calls Tryz.prog 53 #[ptrV p] w1 fun e w' => e = .returned (.int .u8 v) ∧ w1 = w') := by
  obtain ⟨e1, t0, t1, hcase⟩ := hj
  rcases hcase with ⟨j, hjn, hs, e2, e3, e4⟩ | ⟨e2, e3, e4, e5⟩
  · exact ⟨35, fun w1 h => snext_own o.t h (by rw [hs]; simp; omega), fun w1 h => r30next h 35 (by rw [e3]; rfl)⟩
  · exact ⟨0, fun w1 h => snext_idle 0 o.t h (by rw [e2]; rfl), fun w1 h => r30next h 0 (by rw [e3]; rfl)⟩
theorem s_res {o : OO} {q : RO} {p : Nat} (hj : OJ c.sl o.t o.s q) : ∃ u v : Int, (∀ w1, OpenAt w1 o.o b o.t o.s o.a o.cp → Calls Tryz.prog 10 #[ptrV o.o] w1 fun e w' => e = .returned (.tuple #[.int .i64 u, .int .i64 v]) ∧ Keep Nil w1 w') ∧
    (∀ w1, ROAt w1 p rb q → Calls Tryz.prog 55 #[ptrV p] w1 fun e w' => e = .returned (.tuple #[.int .i64 u, .int .i64 v]) ∧ Keep Nil w1 w') := by
  obtain ⟨e1, t0, t1, hcase⟩ := hj
  rcases hcase with ⟨j, hjn, hs, e2, e3, e4⟩ | ⟨e2, e3, e4, e5⟩
  · refine ⟨0, 8, fun w1 h => sres_state o.t h (by rw [hs]; simp; omega), fun w1 h => (r30res0 h e3).mono ?_⟩
    rintro e w' ⟨rfl, rfl⟩
    exact ⟨rfl, Keep.refl _ _⟩
  · refine ⟨o.s.slot, o.s.err, fun w1 h => sres_done o.t h (by rw [e2]; rfl), fun w1 h => ?_⟩
    rw [← e4, ← e5]
    exact r30res1 h e3
theorem s_ownA (h : SMT w wr L c b mb rb rm ll x y xs qs bl) (hok : c.ok) (hlen : c.sl ≤ x.1.length) (hwf : ∀ v ∈ x.1, 0 ≤ v ∧ v < 18446744073709551616) : Calls Tryz.prog 13 #[.pointer (some ⟨b, 0, none⟩)] wr (OwnTo wr ((x.1.take c.sl).map ownOf)) :=
  j_owners (ws := x.1) (log := x.2) h hok hlen hwf
theorem s_ownB (h : SMT w wr L c b mb rb rm ll x y xs qs bl) (hok : c.ok) (hlen : c.sl ≤ y.1.length) (hwf : ∀ v ∈ y.1, 0 ≤ v ∧ v < 18446744073709551616) : Calls Tryz.prog 56 #[.pointer (some ⟨rb, 0, none⟩)] wr (ROwnTo wr ((y.1.take c.sl).map ownOf)) := by
  obtain ⟨B, F, G, hp⟩ := h.rp
  exact r30owners hp hok.sl2 hlen hwf
end
end Go.Proofs.YtjghenomeindcaaGreat
