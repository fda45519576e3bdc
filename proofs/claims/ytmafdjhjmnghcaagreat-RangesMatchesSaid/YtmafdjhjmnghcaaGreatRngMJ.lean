/- RangesMatches: the two sides together: contracts. -/
import Derived.Test.YtmafdjhjmnghcaaGreatRef31S
import Derived.Test.YtmafdjhjmnghcaaGreatRef31U
import Derived.Test.YtmafdjhjmnghcaaGreatRngNew
import Derived.Test.YtmafdjhjmnghcaaGreatRngOps
set_option linter.unusedVariables false
set_option linter.unusedSimpArgs false
namespace Go.Lf
/-- Where a locking lies, and its state. -/
structure LkC where
  l : Nat
  sb : Nat
  m : Nat
  s : KS
/-- A locking that is over, or under way. -/
def KOk (lk n : Nat) (s : KS) : Prop := s.next = 0 ∨ (s.good lk ∧ s.fails ≤ n)
theorem KOk.mono {lk n m : Nat} {s : KS} (h : KOk lk n s) (hm : n ≤ m) : KOk lk m s := h.imp id (fun h => ⟨h.1, by have := h.2; omega⟩)
theorem KOk.init {lk : Nat} (h1 : 1 ≤ lk) {t lo hi tr : Int} (t0 : 0 ≤ t) (t1 : t < 64) (l0 : 0 ≤ lo ∧ lo < 18446744073709551616) (h0 : 0 ≤ hi ∧ hi < 18446744073709551616) : KOk lk 0 (KS.init t lo hi tr) :=
  .inr ⟨KS.init_good (by omega) t0 t1 l0 h0, Int.le_refl _⟩
theorem KOk.step {lk n : Nat} {s : KS} (hg : s.good lk) (hf : s.fails ≤ n) (hn : n < 900000) (h1 : 1 ≤ lk) (x : Int) : KOk lk (n + 1) (s.step lk x) := by
  by_cases h : (s.step lk x).next = 0
  · exact .inl h
  · exact .inr ⟨KS.step_good hg (by omega) (by omega) h, by have := (@KS.step_fails lk s x).1; omega⟩
def knErr (t lo hi tr : Int) : Int := if t < 0 ∨ 64 ≤ t ∨ tr < 0 ∨ 255 < tr then 2 else if hi < lo then 13 else 0
def ulErr (lk T : Nat) (ws : List Int) (t e : Int) : Int := if t < 0 ∨ 64 ≤ t then 2 else if e < 0 ∨ (lk : Int) ≤ e then 3 else if ws[T + 3 * e.toNat]? = some 0 then 8 else 0
def ulTo (lk T : Nat) (x : List Int × List Acc) (t e : Int) : List Int × List Acc := if ulErr lk T x.1 t e = 0 then (x.1.set (T + 3 * e.toNat) 0, x.2 ++ [⟨t, (T : Int) + 3 * e + 0, 2, (x.1[T + 3 * e.toNat]?).getD 0, 0, false⟩]) else x
theorem ulTo_len (lk T : Nat) (x : List Int × List Acc) (t e : Int) : (ulTo lk T x t e).2.length ≤ x.2.length + 1 := by
  unfold ulTo
  split <;> simp
theorem ulTo_ok {c : Cfg} {lk T : Nat} {x : List Int × List Acc} (h : WdOk c x.1) (t e : Int) : WdOk c (ulTo lk T x t e).1 := by
  unfold ulTo
  split
  · exact h.set _ (by decide) (by decide)
  · exact h
open Go.RowKit in
/-- A new object, at any new block. -/
theorem ObjsAt.newAt {σ ω : Type} {P : Lies σ} {O : OpLies ω} {w w' : World} {A F : Nat → Prop} {s s' : σ} {ops : List ω} {bl : List Nat} (h : ObjsAt P O w A s ops bl F) {o : ω} {q : Nat} (hq : w.heap.size ≤ q) (hs : P.lie w' F s') (ho : O.at_ w' q o) (hk : Keep F w w') : (P.objs O).To w A (s', ops ++ [o], bl ++ [q]) w' := by
  have nF : ¬ F q := fun e => by have := P.lt h.sys _ e; omega
  have old : ∀ (i b : Nat), bl[i]? = some b → b < w.heap.size := fun i b hb => h.lt b ((h.foot b).2 (.inr (List.mem_of_getElem? hb)))
  refine h.to bl.length hs (hk.mono fun k _ e => .inl e) (fun k hk => .inl hk) (by simp [h.len]) (fun i b' p hb' hp => ?_) (fun b hb => ?_) (fun i j b hi hj => ?_)
  · rcases get_snoc hb' with ⟨e1, e2⟩ | ⟨e1, e2⟩ <;> rcases get_snoc hp with ⟨e3, e4⟩ | ⟨e3, e4⟩
    · subst e2; subst e4; exact .inr ⟨ho, nF⟩
    · exact absurd (e1.trans h.len) e3
    · exact absurd (e3.trans h.len.symm) e1
    · exact .inl ⟨e1, e2, e4⟩
  · rcases List.mem_append.1 hb with e | e
    · exact .inl e
    · simp only [List.mem_singleton] at e; exact .inr (by omega)
  · rcases get_snoc hi with ⟨e1, e2⟩ | ⟨e1, e2⟩ <;> rcases get_snoc hj with ⟨e3, e4⟩ | ⟨e3, e4⟩
    · exact e1.trans e3.symm
    · have := old j b e4; omega
    · have := old i b e2; omega
    · exact h.apart i j b e2 e4
end Go.Lf
namespace Go.Proofs.YtmafdjhjmnghcaaGreat
open Go.RowKit Go.Lf
def ptrV (k : Nat) : Value := .pointer (some ⟨k, 0, none⟩)
theorem lk_lt3 {w : World} {l sb m b : Nat} {s : KS} (h : LkAt w l sb m b s) : l < w.heap.size ∧ sb < w.heap.size ∧ m < w.heap.size := by
  obtain ⟨c1, c2, c3, c4, c5, c6, c7, c8, hm⟩ := h.map
  exact ⟨lt_of_block h.head, lt_of_block h.span, hm.lt⟩
def LkO (b : Nat) : ObLies LkC where
  at_ w x := LkAt w x.l x.sb x.m b x.s
  has x k := k = x.l ∨ k = x.sb ∨ k = x.m
  keep h hk hn := LkAt.keep h hk (hn _ (.inl rfl)) (hn _ (.inr (.inl rfl))) (hn _ (.inr (.inr rfl)))
  lt h hh := by
    obtain ⟨z1, z2, z3⟩ := lk_lt3 h
    rcases hh with rfl | rfl | rfl
    · exact z1
    · exact z2
    · exact z3
abbrev KMT (w wr : World) (L : Nat → Prop) (c : Cfg) (b mb rb rm ll : Nat) (x y : List Int × List Acc) (xs : List LkC) (qs : List KS) (bl : List Nat) : Prop :=
  Two ((StoreL c b mb).objsB (LkO b)) ((RStoreF c rb rm ll).objs (RKO rb)) w L (x, xs) (y, qs, bl) wr
section
variable {w wr w' : World} {L : Nat → Prop} {c : Cfg} {b mb rb rm ll : Nat} {x y : List Int × List Acc} {xs : List LkC} {qs : List KS} {bl : List Nat} {t e lo hi tr : Int}
theorem k_out {w wr w' : World} {L : Nat → Prop} (h : Keep Nil wr w') : Keep (Out w L) wr w' := h.mono (fun _ _ h => h.elim)
theorem KMT.sp (h : KMT w wr L c b mb rb rm ll x y xs qs bl) : ∃ A L F G, SP wr A c b mb L F G x.1 x.2 := by
  obtain ⟨A, F, ho⟩ := h.has1
  obtain ⟨L, F1, G, hp⟩ := ho.sys
  exact ⟨F, L, F1, G, hp⟩
theorem KMT.rp (h : KMT w wr L c b mb rb rm ll x y xs qs bl) : ∃ B F G, RP wr B c rb rm ll F G y.1 y.2 := by
  obtain ⟨A, F, ho⟩ := h.has2
  obtain ⟨F1, G, hp⟩ := ho.sys
  exact ⟨F, F1, G, hp⟩
theorem KMT.ob (h : KMT w wr L c b mb rb rm ll x y xs qs bl) {k : Nat} {o : LkC} (hx : xs[k]? = some o) : LkAt wr o.l o.sb o.m b o.s := by
  obtain ⟨A, F, ho⟩ := h.has1
  exact (ho.objs k o hx).1
theorem KMT.rob (h : KMT w wr L c b mb rb rm ll x y xs qs bl) {k p : Nat} {q : KS} (hb : bl[k]? = some p) (hq : qs[k]? = some q) : RKAt wr p rb q := by
  obtain ⟨A, F, ho⟩ := h.has2
  exact (ho.objs k p q hb hq).1
/-! New. -/
theorem k_newA0 (b : Nat) (wr : World) {er : Int} (her : er = knErr t lo hi tr) (hne : er ≠ 0) : Calls Tryz.prog 12 #[.pointer (some ⟨b, 0, none⟩), .int .i64 t, .agg #[.int .u64 lo, .int .u64 hi], .int .i64 tr] wr fun e w' => e = .returned (.tuple #[.pointer none, .int .i64 er]) ∧ Keep Nil wr w' := by
  unfold knErr at her
  by_cases h1 : t < 0 ∨ 64 ≤ t ∨ tr < 0 ∨ 255 < tr
  · rw [if_pos h1] at her
    rw [her]
    exact knew_arg t lo hi tr h1
  · rw [if_neg h1] at her
    by_cases h2 : hi < lo
    · rw [if_pos h2] at her
      rw [her]
      exact knew_bad t lo hi tr (by omega) (by omega) (by omega) (by omega) h2
    · rw [if_neg h2] at her
      exact absurd her hne
theorem k_newB0 (rb : Nat) (wr : World) {er : Int} (her : er = knErr t lo hi tr) (hne : er ≠ 0) : Calls Tryz.prog 51 #[.pointer (some ⟨rb, 0, none⟩), .int .i64 t, .agg #[.int .u64 lo, .int .u64 hi], .int .i64 tr] wr fun e w' => e = .returned (.tuple #[.pointer none, .int .i64 er]) ∧ Keep Nil wr w' := by
  unfold knErr at her
  by_cases h1 : t < 0 ∨ 64 ≤ t ∨ tr < 0 ∨ 255 < tr
  · rw [if_pos h1] at her
    rw [her]
    exact r31new_arg h1
  · rw [if_neg h1] at her
    by_cases h2 : hi < lo
    · rw [if_pos h2] at her
      rw [her]
      exact r31new_bad (by omega) (by omega) (by omega) (by omega) h2
    · rw [if_neg h2] at her
      exact absurd her hne
def KNATo (w wr : World) (L : Nat → Prop) (c : Cfg) (b mb rb rm ll : Nat) (x y : List Int × List Acc) (xs : List LkC) (qs : List KS) (bl : List Nat) (s : KS) (e : Ending) (w' : World) : Prop :=
  ∃ o : LkC, o.s = s ∧ e = .returned (.tuple #[ptrV o.l, .int .i64 0]) ∧ KMT w w' L c b mb rb rm ll x y (xs ++ [o]) qs bl ∧ Keep (Out w L) wr w'
theorem knErr_0 (h : knErr t lo hi tr = 0) : 0 ≤ t ∧ t < 64 ∧ 0 ≤ tr ∧ tr ≤ 255 ∧ lo ≤ hi := by
  unfold knErr at h
  split at h
  · cases h
  · split at h
    · cases h
    · omega
theorem k_newA (h : KMT w wr L c b mb rb rm ll x y xs qs bl) (he : knErr t lo hi tr = 0) : Calls Tryz.prog 12 #[.pointer (some ⟨b, 0, none⟩), .int .i64 t, .agg #[.int .u64 lo, .int .u64 hi], .int .i64 tr] wr (KNATo w wr L c b mb rb rm ll x y xs qs bl (KS.init t lo hi tr)) := by
  obtain ⟨t0, t1, r0, r1, hs⟩ := knErr_0 he
  refine (Two.call1x h (X := LkC) (Φ := fun o e => o.s = KS.init t lo hi tr ∧ e = .returned (.tuple #[ptrV o.l, .int .i64 0])) (s' := fun o => (x, xs ++ [o])) fun A hl => ?_).mono fun e w' ⟨o, ⟨h1, h2⟩, h3, h4⟩ => ⟨o, h1, h2, h3, h4⟩
  obtain ⟨F, hl⟩ := hl
  refine (knew_ok t lo hi tr t0 t1 r0 r1 hs).mono ?_
  rintro e w' ⟨l, sb, m, rfl, hlk, hk, z1, z2, z3⟩
  refine ⟨⟨l, sb, m, KS.init t lo hi tr⟩, ⟨rfl, rfl⟩, ?_⟩
  have hF : ∀ j, wr.heap.size ≤ j → ¬ F j := fun j hj hFj => by have := (StoreL c b mb).lt hl.sys j hFj; omega
  obtain ⟨A', h1, h2, h3⟩ := hl.new (o := ⟨l, sb, m, KS.init t lo hi tr⟩) ((StoreL c b mb).keep hl.sys hk (fun _ _ h => h)) hlk (hk.mono (fun _ _ h => h.elim)) (fun _ h => .inl h) (fun j hj => by
    have hj' : wr.heap.size ≤ j := by
      rcases hj with rfl | rfl | rfl
      · exact z1
      · exact z2
      · exact z3
    exact ⟨hF j hj', hj'⟩)
  exact ⟨A', ⟨F, h1⟩, h2, h3⟩
def KNBTo (w wr : World) (L : Nat → Prop) (c : Cfg) (b mb rb rm ll : Nat) (x y : List Int × List Acc) (xs : List LkC) (qs : List KS) (bl : List Nat) (s : KS) (e : Ending) (w' : World) : Prop :=
  ∃ p, e = .returned (.tuple #[ptrV p, .int .i64 0]) ∧ KMT w w' L c b mb rb rm ll x y xs (qs ++ [s]) (bl ++ [p]) ∧ Keep (Out w L) wr w'
theorem k_newB (h : KMT w wr L c b mb rb rm ll x y xs qs bl) (he : knErr t lo hi tr = 0) : Calls Tryz.prog 51 #[.pointer (some ⟨rb, 0, none⟩), .int .i64 t, .agg #[.int .u64 lo, .int .u64 hi], .int .i64 tr] wr (KNBTo w wr L c b mb rb rm ll x y xs qs bl (KS.init t lo hi tr)) := by
  obtain ⟨t0, t1, r0, r1, hs⟩ := knErr_0 he
  refine (Two.call2x h (X := Nat) (Φ := fun p e => e = .returned (.tuple #[ptrV p, .int .i64 0])) (r' := fun p => (y, qs ++ [KS.init t lo hi tr], bl ++ [p])) (fun A hA => ?_)).mono fun e w' ⟨p, h1, h2, h3⟩ => ⟨p, h1, h2, h3⟩
  obtain ⟨F, ho⟩ := hA
  obtain ⟨F1, G, hsp⟩ := ho.sys
  refine (r31new_ok t0 t1 r0 r1 hs).mono ?_
  rintro e w' ⟨p, rfl, h1, h2, h3⟩
  refine ⟨p, rfl, ?_⟩
  exact ho.newAt (o := KS.init t lo hi tr) h3 ⟨F1, G, hsp.quiet h2⟩ h1 (h2.mono (fun _ _ h => h.elim))
/-! Unlock. -/
def KUlA (w wr : World) (L : Nat → Prop) (c : Cfg) (b mb rb rm ll : Nat) (x y : List Int × List Acc) (xs : List LkC) (qs : List KS) (bl : List Nat) (er : Int) (e : Ending) (w' : World) : Prop :=
  e = .returned (.int .i64 er) ∧ KMT w w' L c b mb rb rm ll x y xs qs bl ∧ Keep (Out w L) wr w'
theorem tab_len {c : Cfg} {ws : List Int} (hw : WdOk c ws) {e : Nat} (he : e < c.lk) : ∃ v, ws[c.locks + 3 * e]? = some v := by
  have h1 := c.le1; have h2 := c.le2; have h3 := c.le3
  have hq1 : c.locks + c.lk * 3 = c.descs := rfl
  have hq2 : c.descs + c.lk = c.pools := rfl
  obtain ⟨v, hv, -⟩ := hw.at (k := c.locks + 3 * e) (by omega)
  exact ⟨v, hv⟩
theorem k_unlA (h : KMT w wr L c b mb rb rm ll x y xs qs bl) (hok : c.ok) (hw : WdOk c x.1) (hl : x.2.length < 1000000000) (t e : Int) :
    Calls Tryz.prog 16 #[.pointer (some ⟨b, 0, none⟩), .int .i64 t, .int .i64 e] wr (KUlA w wr L c b mb rb rm ll (ulTo c.lk c.locks x t e) y xs qs bl (ulErr c.lk c.locks x.1 t e)) := by
  unfold ulTo ulErr
  by_cases h1 : t < 0 ∨ 64 ≤ t
  · rw [if_pos h1, if_neg (by decide)]
    refine (kunlock_arg t e h1).mono ?_
    rintro e' w' ⟨rfl, rfl⟩
    exact ⟨rfl, h, Keep.refl _ _⟩
  rw [if_neg h1]
  obtain ⟨A, L1, F, G, hsp⟩ := h.sp
  by_cases h2 : e < 0 ∨ (c.lk : Int) ≤ e
  · rw [if_pos h2, if_neg (by decide)]
    refine (kunlock_range hsp hok t e (by omega) (by omega) h2).mono ?_
    rintro e' w' ⟨rfl, hk⟩
    exact ⟨rfl, h.quiet hk, k_out hk⟩
  rw [if_neg h2]
  obtain ⟨n, rfl⟩ : ∃ n : Nat, e = n := ⟨e.toNat, by omega⟩
  rw [Int.toNat_natCast]
  obtain ⟨v, hv⟩ := tab_len hw (show n < c.lk by omega)
  by_cases h3 : x.1[c.locks + 3 * n]? = some 0
  · rw [if_pos h3, if_neg (by decide)]
    refine (kunlock_state hsp hok t (by omega) (by omega) n (by omega) h3).mono ?_
    rintro e' w' ⟨rfl, hk⟩
    exact ⟨rfl, h.quiet hk, k_out hk⟩
  · rw [if_neg h3, if_pos rfl]
    refine (Two.call1 h (Φ := fun e _ => e = .returned (.int .i64 0)) (s' := ((x.1.set (c.locks + 3 * n) 0, x.2 ++ [⟨t, (c.locks : Int) + 3 * (n : Int) + 0, 2, (x.1[c.locks + 3 * n]?).getD 0, 0, false⟩]), xs)) (fun A hA => ?_)).mono fun e w' ⟨h1, h2, h3⟩ => ⟨h1, h2, h3⟩
    obtain ⟨F', ho⟩ := hA
    obtain ⟨L2, F1, G', hs2⟩ := ho.sys
    refine (kunlock_ok hs2 hok t (by omega) (by omega) n (by omega) v (fun e0 => h3 (by rw [hv, e0])) hv hl).mono ?_
    rintro e' w' ⟨rfl, F2, q1, q2, q3⟩
    rw [hv]
    obtain ⟨A', r1, r2, r3⟩ := ho.none q1 q2 q3
    exact ⟨rfl, A', ⟨F2, r1⟩, r2, r3⟩
theorem k_unlB (h : KMT w wr L c b mb rb rm ll x y xs qs bl) (hok : c.ok) (hw : WdOk c y.1) (hl : y.2.length < 1000000000) (t e : Int) :
    Calls Tryz.prog 52 #[.pointer (some ⟨rb, 0, none⟩), .int .i64 t, .int .i64 e] wr (KUlA w wr L c b mb rb rm ll x (ulTo c.lk c.locks y t e) xs qs bl (ulErr c.lk c.locks y.1 t e)) := by
  unfold ulTo ulErr
  by_cases h1 : t < 0 ∨ 64 ≤ t
  · rw [if_pos h1, if_neg (by decide)]
    refine (r31unl_arg h1).mono ?_
    rintro e' w' ⟨rfl, rfl⟩
    exact ⟨rfl, h, Keep.refl _ _⟩
  rw [if_neg h1]
  obtain ⟨B, F, G, hp⟩ := h.rp
  by_cases h2 : e < 0 ∨ (c.lk : Int) ≤ e
  · rw [if_pos h2, if_neg (by decide)]
    refine (r31unl_range hp (by omega) (by omega) h2).mono ?_
    rintro e' w' ⟨rfl, hk⟩
    exact ⟨rfl, h.quiet hk, k_out hk⟩
  rw [if_neg h2]
  obtain ⟨n, rfl⟩ : ∃ n : Nat, e = n := ⟨e.toNat, by omega⟩
  rw [Int.toNat_natCast]
  obtain ⟨v, hv⟩ := tab_len hw (show n < c.lk by omega)
  by_cases h3 : y.1[c.locks + 3 * n]? = some 0
  · rw [if_pos h3, if_neg (by decide)]
    refine (r31unl_state hp hok (by omega) (by omega) n (by omega) h3).mono ?_
    rintro e' w' ⟨rfl, hk⟩
    exact ⟨rfl, h.quiet hk, k_out hk⟩
  · rw [if_neg h3, if_pos rfl]
    refine (Two.call2 h (Φ := fun e _ => e = .returned (.int .i64 0)) (r' := ((y.1.set (c.locks + 3 * n) 0, y.2 ++ [⟨t, (c.locks : Int) + 3 * (n : Int) + 0, 2, (y.1[c.locks + 3 * n]?).getD 0, 0, false⟩]), qs, bl)) (fun A hA => ?_)).mono fun e w' ⟨h1, h2, h3⟩ => ⟨h1, h2, h3⟩
    obtain ⟨F', ho⟩ := hA
    obtain ⟨F1, G', hs2⟩ := ho.sys
    refine (r31unl_ok hs2 hok (by omega) (by omega) n (by omega) v (fun e0 => h3 (by rw [hv, e0])) hv hl).mono ?_
    rintro e' w' ⟨rfl, F2, q1, q2, q3⟩
    rw [hv]
    exact ⟨rfl, ho.none q1 q2 q3⟩
/-! A step of both. -/
def KSA (w wr : World) (L : Nat → Prop) (c : Cfg) (b mb rb rm ll : Nat) (x y : List Int × List Acc) (xs : List LkC) (qs : List KS) (bl : List Nat) (pc : Int) (done : Bool) (e : Ending) (w' : World) : Prop :=
  e = .returned (.tuple #[.int .u8 pc, .bool done]) ∧ KMT w w' L c b mb rb rm ll x y xs qs bl ∧ Keep (Out w L) wr w'
/-- What a step does, on either side. -/
structure KStp (w wr : World) (L : Nat → Prop) (c : Cfg) (b mb rb rm ll n : Nat) (x : List Int × List Acc) (xs : List LkC) (qs : List KS) (bl : List Nat) (k p : Nat) (o : LkC) (pc : Int) (done : Bool) (x' : List Int × List Acc) (s' : KS) : Prop where
  a : Calls Tryz.prog 13 #[ptrV o.l] wr (KSA w wr L c b mb rb rm ll x' x (xs.set k ⟨o.l, o.sb, o.m, s'⟩) qs bl pc done)
  b : ∀ (w1 : World) (xs1 : List LkC), KMT w w1 L c b mb rb rm ll x' x xs1 qs bl → Calls Tryz.prog 55 #[ptrV p] w1 (KSA w w1 L c b mb rb rm ll x' x' xs1 (qs.set k s') bl pc done)
  ok : KOk c.lk (n + 1) s'
  wd : WdOk c x'.1
  log : x'.2.length ≤ x.2.length + 1
theorem kset_self {α : Type} {l : List α} {k : Nat} {x : α} (h : l[k]? = some x) : l.set k x = l := by
  apply List.ext_getElem?
  intro i
  rw [List.getElem?_set]
  split
  · next e => subst e; rw [h]; simp [(List.getElem?_eq_some_iff.1 h).1]
  · rfl
theorem k_step (h : KMT w wr L c b mb rb rm ll x x xs qs bl) (hok : c.ok) (hw : WdOk c x.1) (hlog : x.2.length + 1 < 1000000000) {n k p : Nat} (hn : n < 900000) {o : LkC} (hx : xs[k]? = some o) (hq : qs[k]? = some o.s) (hb : bl[k]? = some p) (hj : KOk c.lk n o.s) :
    ∃ pc done x' s', KStp w wr L c b mb rb rm ll n x xs qs bl k p o pc done x' s' := by
  rcases hj with h0 | ⟨hg, hf⟩
  · refine ⟨0, false, x, o.s, ?_, ?_, .inl h0, hw, by omega⟩
    · refine (kstep_idle (h.ob hx) h0).mono ?_
      rintro e w' ⟨rfl, hk⟩
      exact ⟨rfl, by rw [kset_self hx]; exact h.quiet hk, k_out hk⟩
    · intro w1 xs1 h1
      refine (r31idle (h1.rob hb hq) h0).mono ?_
      rintro e w' ⟨rfl, rfl⟩
      exact ⟨rfl, by rw [kset_self hq]; exact h1, Keep.refl _ _⟩
  · obtain ⟨v, hv, v0, v1⟩ := hw.at (KS.at_lt hg)
    refine ⟨o.s.next, (o.s.act c.lk v).2 == 0, (o.s.ws c.master c.locks x.1 v, x.2 ++ [o.s.acc c.master c.locks v]), o.s.step c.lk v, ?_, ?_, KOk.step hg hf hn hok.lk1 v, KS.ws_ok hw hg v, by simp⟩
    · refine (Two.call1 h (Φ := fun e _ => e = .returned (.tuple #[.int .u8 o.s.next, .bool ((o.s.act c.lk v).2 == 0)])) (s' := ((o.s.ws c.master c.locks x.1 v, x.2 ++ [o.s.acc c.master c.locks v]), xs.set k ⟨o.l, o.sb, o.m, o.s.step c.lk v⟩)) (fun A hA => ?_)).mono fun e w' ⟨h1, h2, h3⟩ => ⟨h1, h2, h3⟩
      obtain ⟨F, ho⟩ := hA
      obtain ⟨L1, F1, G, hsp⟩ := ho.sys
      obtain ⟨hlk, hF⟩ := ho.objs k o hx
      have hin : KIn wr F c b mb L1 o.l o.sb o.m F1 G x.1 x.2 o.s := ⟨hsp, hok, hlk, hF _ (.inl rfl), hF _ (.inr (.inl rfl)), hF _ (.inr (.inr rfl)), hw, hg.t0.1, hg.t0.2, by omega⟩
      refine (kstep_ok hin hg hlog v hv).mono ?_
      rintro e w' ⟨rfl, A', q1, q2, q3, q4⟩
      have q4' : ∀ k, A' k → F k ∨ wr.heap.size ≤ k := q4
      obtain ⟨z1, z2, z3⟩ := lk_lt3 hlk
      have hno : ∀ j, ¬ F j → j < wr.heap.size → ¬ A' j := fun j h1 h2 h3 => (q4' j h3).elim h1 (fun e => by omega)
      obtain ⟨A2, r1, r2, r3⟩ := ho.one (o' := ⟨o.l, o.sb, o.m, o.s.step c.lk v⟩) hx q1 q2 (q3.mono (fun j _ e => e.elim .inl (fun e => .inr (.inl e)))) q4 (fun j hj => by
        rcases hj with rfl | rfl | rfl
        · exact ⟨hno _ (hF _ (.inl rfl)) z1, .inl (.inl rfl)⟩
        · exact ⟨hno _ (hF _ (.inr (.inl rfl))) z2, .inl (.inr (.inl rfl))⟩
        · exact ⟨hno _ (hF _ (.inr (.inr rfl))) z3, .inl (.inr (.inr rfl))⟩)
      exact ⟨rfl, A2, ⟨A', r1⟩, r2, r3⟩
    · intro w1 xs1 h1
      refine (Two.call2 h1 (Φ := fun e _ => e = .returned (.tuple #[.int .u8 o.s.next, .bool ((o.s.act c.lk v).2 == 0)])) (r' := ((o.s.ws c.master c.locks x.1 v, x.2 ++ [o.s.acc c.master c.locks v]), qs.set k (o.s.step c.lk v), bl)) (fun A hA => ?_)).mono fun e w' ⟨h1, h2, h3⟩ => ⟨h1, h2, h3⟩
      obtain ⟨F', ho⟩ := hA
      obtain ⟨F1, G', hsp⟩ := ho.sys
      obtain ⟨hat, nA⟩ := ho.objs k p o.s hb hq
      refine (r31step hsp hat nA hok hg hlog v hv).mono ?_
      rintro e w' ⟨rfl, B', q1, q2, q3, q4⟩
      have hz : p < w1.heap.size := lt_of_block hat
      exact ⟨rfl, ho.one (t := k) (b := p) hb q1 q2 q3 q4 (fun e => (q4 p e).elim nA (fun e => by omega))⟩
/-! Held. -/
theorem k_heldA (h : KMT w wr L c b mb rb rm ll x y xs qs bl) (hok : c.ok) (hw : WdOk c x.1) : Calls Tryz.prog 17 #[.pointer (some ⟨b, 0, none⟩)] wr (HeldOw wr (heldP c.locks x.1 c.lk)) := by
  obtain ⟨A, L1, F, G, hsp⟩ := h.sp
  exact held_own hsp hok (by rw [hw.len]; exact Nat.le_refl _)
theorem k_heldB (h : KMT w wr L c b mb rb rm ll x y xs qs bl) (hok : c.ok) (hw : WdOk c y.1) : Calls Tryz.prog 57 #[.pointer (some ⟨rb, 0, none⟩)] wr (R31HeldTo wr (heldP c.locks y.1 c.lk)) := by
  obtain ⟨B, F, G, hp⟩ := h.rp
  exact r31held hp hok hw
end
end Go.Proofs.YtmafdjhjmnghcaaGreat
