/- A rig's pick keeps what holds of a rig. -/
import Derived.Test.YtldjlcdccnnogaaGreatRigK
import Derived.Test.YtldjlcdccnnogaaGreatRigP
set_option linter.unusedVariables false
set_option linter.unusedSimpArgs false
namespace Go.Lf
/-- What holds of a rig between two picks. -/
structure RgG (n : Nat) (bnd : Int → Nat) (s : RgS) : Prop where
  e : RgE n s.l s.st s.x.T s.x.M
  th : ∀ k, k < n → TOk (s.th k) s.x k
  ix : ∀ k, k < n → (s.th k).idx ≤ (s.th k).ops.length ∧ (s.th k).ops.length ≤ 100 ∧ OpsWf (s.th k).ops
  K : s.x.K ≤ n + 2 * s.st
  len : s.l.length ≤ 2 * s.st
  rb : ∀ k set bg, k < n → s.x.T k = .wa set bg → s.x.R k ≤ bnd set
theorem TOk.other {t : TC} {x x' : RX} {k : Nat} (h : TOk t x k) (hT : x'.T k = x.T k) (hb : x'.bx k = x.bx k) : TOk t x' k := by
  cases h with
  | rest h1 h2 hp h4 hv => exact .rest h1 h2 hp (by rw [hT]; exact h4) hv
  | en b h1 hi h3 h4 v0 v1 hl => exact .en b h1 hi (by rw [hb]; exact h3) (by rw [hT]; exact h4) v0 v1 hl
  | wa b set h1 h2 hi h3 ho s0 s1 h4 => exact .wa b set h1 h2 hi (by rw [hb]; exact h3) ho s0 s1 (by rw [hT]; exact h4)
/-- Between a step and the operation that begins behind it. -/
structure RgMid (n : Nat) (bnd : Int → Nat) (s s1 : RgS) (k : Nat) (d : Bool) : Prop where
  e : RgE n s1.l (s.st + 1) s1.x.T s1.x.M
  st : s1.st = s.st
  ne : ∀ j, j ≠ k → s1.th j = s.th j ∧ s1.x.T j = s.x.T j ∧ s1.x.R j = s.x.R j ∧ s1.x.bx j = s.x.bx j
  op : (s1.th k).ops = (s.th k).ops ∧ (s1.th k).idx = (s.th k).idx
  K : s1.x.K ≤ s.x.K + 1
  len : s1.l.length ≤ s.l.length + 2
  dn : d = true → TIdle { s1.th k with idx := (s1.th k).idx + 1 } s1.x k
  nd : d = false → TOk (s1.th k) s1.x k
  rb : ∀ set bg, s1.x.T k = .wa set bg → s1.x.R k ≤ bnd set
/-- What a pick tells of waits. -/
structure PkR (n : Nat) (bnd : Int → Nat) (conc : Int → Int → Bool) (k : Nat) (s s2 : RgS) (pc : Int) : Prop where
  ne : ∀ j, j ≠ k → s2.x.T j = s.x.T j ∧ s2.x.R j = s.x.R j
  ev : ((∀ set bg, s.x.T k ≠ .wa set bg) ∧ (s2.l = s.l ∨ ∃ kd v, (kd = 1 ∨ kd = 2) ∧ s2.l = s.l ++ [⟨s.st, k, kd, v⟩]) ∧ ∀ set, s2.x.T k ≠ .wa set true) ∨
    ∃ set bg d r, s.x.T k = .wa set bg ∧ pc ≠ 0 ∧ s2.l = wtEv s.l s.st k set bg d ∧ (d = false → s2.x.T k = .wa set true ∧ s2.x.R k = r) ∧ (d = true → ∀ u, s2.x.T k ≠ .wa u true) ∧ r ≤ bnd set ∧
      (r + 1 ≤ s.x.R k ∨ (∃ j v, j < n ∧ s.x.T j = .inn v ∧ conc set v = true) ∨ ∃ j s', j < n ∧ j ≠ k ∧ s.x.T j = .wa s' true)
end Go.Lf
namespace Go.Proofs.YtldjlcdccnnogaaGreat
open Go.RowKit Go.Lf
section
variable {n : Nat} {bnd : Int → Nat} {s s1 s2 : RgS} {k : Nat} {d : Bool}
theorem RgMid.after (hG : RgG n bnd s) (h : RgMid n bnd s s1 k d) (hk : k < n) (ha : PkAf bnd k s1 d s2) :
    RgG n bnd s2 ∧ s2.st = s.st + 1 ∧ s2.l = s1.l ∧ (∀ j, j ≠ k → s2.x.T j = s.x.T j ∧ s2.x.R j = s.x.R j) ∧ (d = false → s2.x = s1.x) ∧ (d = true → s2.x.T k = s1.x.T k ∨ ∀ set, s2.x.T k ≠ .wa set true) := by
  obtain ⟨i1, i2, i3⟩ := hG.ix k hk
  have hn1 := h.len
  have hn2 := hG.len
  have hk1 := h.K
  have hk2 := hG.K
  rcases ha with ⟨rfl, rfl⟩ | ⟨rfl, x', t', b1, b2, b3, b4, b5, rfl⟩
  · refine ⟨⟨by rw [← h.st] at *; exact h.st ▸ h.e, fun j hj => ?_, fun j hj => ?_, ?_, ?_, fun j set bg hj ht => ?_⟩, by rw [← h.st], rfl, fun j e => ⟨(h.ne j e).2.1, (h.ne j e).2.2.1⟩, fun _ => rfl, (fun e => by cases e)⟩
    · by_cases e : j = k
      · subst e; exact h.nd rfl
      · obtain ⟨a, b, c, e'⟩ := h.ne j e
        show TOk (s1.th j) s1.x j
        rw [a]; exact (hG.th j hj).other b e'
    · by_cases e : j = k
      · subst e
        show (s1.th j).idx ≤ (s1.th j).ops.length ∧ _ ∧ _
        rw [h.op.1, h.op.2]; exact hG.ix j hj
      · show (s1.th j).idx ≤ (s1.th j).ops.length ∧ _ ∧ _
        rw [(h.ne j e).1]; exact hG.ix j hj
    · show s1.x.K ≤ n + 2 * (s1.st + 1)
      rw [h.st]; omega
    · show s1.l.length ≤ 2 * (s1.st + 1)
      rw [h.st]; omega
    · by_cases e : j = k
      · subst e; exact h.rb set bg ht
      · obtain ⟨a, b, c, e'⟩ := h.ne j e
        have ht : s1.x.T j = .wa set bg := ht
        show s1.x.R j ≤ _
        rw [c]; exact hG.rb j set bg hj (by rw [← b]; exact ht)
  · have hid := h.dn rfl
    refine ⟨⟨?_, fun j hj => ?_, fun j hj => ?_, ?_, ?_, fun j set bg hj ht => ?_⟩, by show s1.st + 1 = _; rw [h.st], rfl, fun j e => ?_, (fun e => by cases e), fun _ => ?_⟩
    · show RgE n s1.l (s1.st + 1) x'.T x'.M
      rw [h.st, b1.M]
      exact h.e.beg (fun j e => (b1.ne j e).1) (b1.tk.imp id (fun ⟨a, b⟩ => ⟨a, b.imp id (fun ⟨u, hu, _⟩ => ⟨u, hu⟩)⟩))
    · by_cases e : j = k
      · subst e
        show TOk (upd s1.th j t' j) x' j
        rw [upd_self]; exact b2
      · show TOk (upd s1.th k t' j) x' j
        rw [upd_ne _ _ e]
        obtain ⟨a, b, c, e'⟩ := h.ne j e
        obtain ⟨p1, p2, p3⟩ := b1.ne j e
        rw [a]; exact (hG.th j hj).other (p1.trans b) (p3.trans e')
    · by_cases e : j = k
      · subst e
        show (upd s1.th j t' j).idx ≤ (upd s1.th j t' j).ops.length ∧ (upd s1.th j t' j).ops.length ≤ 100 ∧ OpsWf (upd s1.th j t' j).ops
        rw [upd_self, b4, b5, h.op.1]
        refine ⟨?_, i2, i3⟩
        have := hid.idx
        simp only at this
        rw [h.op.1] at this
        exact this
      · show (upd s1.th k t' j).idx ≤ (upd s1.th k t' j).ops.length ∧ (upd s1.th k t' j).ops.length ≤ 100 ∧ OpsWf (upd s1.th k t' j).ops
        rw [upd_ne _ _ e, (h.ne j e).1]; exact hG.ix j hj
    · show x'.K ≤ n + 2 * (s1.st + 1)
      have := b1.K
      rw [h.st]; omega
    · show s1.l.length ≤ 2 * (s1.st + 1)
      rw [h.st]; omega
    · have ht : x'.T j = .wa set bg := ht
      show x'.R j ≤ _
      by_cases e : j = k
      · subst e
        rcases b1.tk with e1 | ⟨e1, ⟨v, e2⟩ | ⟨u, e2, e3⟩⟩
        · exfalso
          rw [e1, hid.hT] at ht
          split at ht <;> cases ht
        · rw [e2] at ht; cases ht
        · rw [e2] at ht; cases ht; exact e3
      · obtain ⟨a, b, c, e'⟩ := h.ne j e
        obtain ⟨p1, p2, p3⟩ := b1.ne j e
        rw [p2, c]; exact hG.rb j set bg hj (by rw [← b, ← p1]; exact ht)
    · obtain ⟨a, b, c, e'⟩ := h.ne j e
      obtain ⟨p1, p2, p3⟩ := b1.ne j e
      exact ⟨p1.trans b, p2.trans c⟩
    · rcases b1.tk with e1 | ⟨e1, ⟨v, e2⟩ | ⟨u, e2, e3⟩⟩
      · exact .inl e1
      · exact .inr (fun set e => by have e : x'.T k = _ := e; rw [e2] at e; cases e)
      · exact .inr (fun set e => by have e : x'.T k = _ := e; rw [e2] at e; cases e)
end
section
variable {n : Nat} {E : PrW n} {C : RgC} {w w' : World} {A : Nat → Prop} {s : RgS} {k : Nat}
/-- Behind a pick of a rig. -/
def RPickTo (E : PrW n) (C : RgC) (w : World) (A : Nat → Prop) (s : RgS) (k : Nat) (e : Ending) (w' : World) : Prop :=
  ∃ pc ac tk d s2, e = .returned (.tuple #[pkStepV k pc ac tk d, .int .i64 0]) ∧ RgG n E.bnd s2 ∧ s2.st = s.st + 1 ∧ PkR n E.bnd E.conc k s s2 pc ∧ (RigL E C).To w A s2 w'
theorem rpickL (hl : (RigL E C).lie w A s) (hG : RgG n E.bnd s) (hn : n ≤ 6) (hst : s.st ≤ 400) {p : Int} (b0 : -9223372036854775808 ≤ p) (b1 : p ≤ 9223372036854775807) (hk : k < n) (hp : p % n = k) :
    Calls Tryz.prog 7 #[pb C.m, .int .i64 p] w (RPickTo E C w A s k) := by
  obtain ⟨A0, arr, ev, h, hA⟩ := hl
  obtain ⟨i1, i2, i3⟩ := hG.ix k hk
  have hK := hG.K
  have hlen := hG.len
  have hE := hG.e
  cases hG.th k hk with
  | rest h1 h2 hpc hT hv =>
    rcases hpc with hpc | ⟨hpc, hix⟩ | ⟨hpc, hins, hix⟩
    · refine (rpick_idle h hA hn b0 b1 hk hp h1 h2 hpc (by omega)).mono ?_
      rintro e w' ⟨rfl, ht⟩
      refine ⟨0, false, false, false, ⟨s.l, s.st + 1, s.th, s.x⟩, rfl, ⟨hE.tick, hG.th, hG.ix, by show s.x.K ≤ n + 2 * (s.st + 1); omega, by show s.l.length ≤ 2 * (s.st + 1); omega, hG.rb⟩, rfl, ⟨fun j e => ⟨rfl, rfl⟩, .inl ⟨fun set bg e => ?_, .inl rfl, fun set e => ?_⟩⟩, ht⟩
      · rw [hT] at e; split at e <;> cases e
      · have e : s.x.T k = _ := e
        rw [hT] at e; split at e <;> cases e
    · refine (rpick_go h hA hn b0 b1 hk hp (by omega) (Q := fun pc d s1 => d = true ∧ s1 = s) ?_ ?_ ?_).mono ?_
      · intro W B arr ev g
        refine (rg_next_pc (g.thAt hk) h1 h2).mono ?_
        rintro e w' ⟨rfl, rfl⟩
        exact ⟨_, rfl, by rw [hpc]; decide, Keep.refl _ _⟩
      · intro W B arr ev g gA
        refine (rstep_ref g hk h1 h2 hpc).mono ?_
        rintro e w' ⟨rfl, rfl⟩
        exact ⟨1, true, s, rfl, by decide, ⟨rfl, rfl⟩, A, ⟨B, arr, ev, g, gA⟩, Keep.refl _ _, fun _ h => .inl h⟩
      · rintro pc d s1 ⟨rfl, rfl⟩
        exact ⟨rfl, fun _ => ⟨⟨hT, hv, hix⟩, i3, by omega, by omega⟩⟩
      · rintro e w' ⟨pc, ac, tk, d, s1, s2, rfl, p0, ⟨rfl, rfl⟩, haf, ht⟩
        obtain ⟨q1, q2, q3, q4, q5, q6⟩ := RgMid.after (s := s1) hG ⟨hE.tick, rfl, fun j e => ⟨rfl, rfl, rfl, rfl⟩, ⟨rfl, rfl⟩, by omega, by omega, fun _ => ⟨hT, hv, hix⟩, (fun e => by cases e), fun set bg e => hG.rb k set bg hk e⟩ hk haf
        refine ⟨pc, ac, tk, true, s2, rfl, q1, q2, ⟨q4, .inl ⟨fun set bg e => ?_, .inl q3, fun set e => ?_⟩⟩, ht⟩
        · rw [hT] at e; split at e <;> cases e
        · rcases q6 rfl with q | q
          · rw [q, hT] at e; split at e <;> cases e
          · exact q set e
    · have hT' : s.x.T k = .inn (s.th k).v := by rw [hT, if_pos hins]
      obtain ⟨v0, v1⟩ := hv hins
      have hE2 := hE.exit hn hk (by omega) hT' v0 v1
      refine (rpick_go h hA hn b0 b1 hk hp (by omega) (Q := fun pc d s1 => d = true ∧ s1 = ⟨s.l ++ [⟨s.st, k, 2, (s.th k).v⟩], s.st, upd s.th k { s.th k with ins := false }, s.x.exit k⟩) ?_ ?_ ?_).mono ?_
      · intro W B arr ev g
        refine (rg_next_pc (g.thAt hk) h1 h2).mono ?_
        rintro e w' ⟨rfl, rfl⟩
        exact ⟨_, rfl, by omega, Keep.refl _ _⟩
      · intro W B arr ev g gA
        refine (rstep_exit g gA hk (by omega) (by omega) h1 h2 hpc hT').mono ?_
        rintro e w' ⟨pc, rfl, p0, p1, ht⟩
        exact ⟨pc, true, _, rfl, p0, ⟨rfl, rfl⟩, ht⟩
      · rintro pc d s1 ⟨rfl, rfl⟩
        refine ⟨rfl, fun _ => ?_⟩
        simp only [upd_self]
        exact ⟨⟨by show (s.x.exit k).T k = _; unfold RX.exit; simp only [upd_self]; rfl, (fun e => by cases e), hix⟩, i3, by show s.x.K + 1 ≤ 900; omega, by omega⟩
      · rintro e w' ⟨pc, ac, tk, d, s1, s2, rfl, p0, ⟨rfl, rfl⟩, haf, ht⟩
        obtain ⟨q1, q2, q3, q4, q5, q6⟩ := RgMid.after (s := s) (s1 := ⟨s.l ++ [⟨s.st, k, 2, (s.th k).v⟩], s.st, upd s.th k { s.th k with ins := false }, s.x.exit k⟩) hG ⟨hE2, rfl, fun j e => ⟨upd_ne _ _ e, upd_ne _ _ e, rfl, rfl⟩, ⟨by simp only [upd_self], by simp only [upd_self]⟩, Nat.le_refl _, by simp, (fun _ => by simp only [upd_self]; exact ⟨by show (s.x.exit k).T k = _; unfold RX.exit; simp only [upd_self]; rfl, (fun e => by cases e), hix⟩), (fun e => by cases e), fun set bg e => by have e : (s.x.exit k).T k = _ := e; unfold RX.exit at e; simp only [upd_self] at e; cases e⟩ hk haf
        refine ⟨pc, ac, tk, true, s2, rfl, q1, q2, ⟨q4, .inl ⟨fun set bg e => ?_, .inr ⟨2, _, .inr rfl, q3⟩, fun set e => ?_⟩⟩, ht⟩
        · rw [hT'] at e; cases e
        · rcases q6 rfl with q | q
          · rw [q] at e; have e : (s.x.exit k).T k = _ := e; unfold RX.exit at e; simp only [upd_self] at e; cases e
          · exact q set e
  | en b h1 hi hb hT v0 v1 hix =>
    have hE2 := hE.enter hn hk (by omega) hT v0 v1
    refine (rpick_go h hA hn b0 b1 hk hp (by omega) (Q := fun pc d s1 => s1 = ⟨if d = true then s.l ++ [⟨s.st, k, 1, (s.th k).v⟩] else s.l, s.st, upd s.th k { s.th k with ins := if d = true then true else (s.th k).ins }, s.x.estep k (s.th k).v d⟩) ?_ ?_ ?_).mono ?_
    · intro W B arr ev g
      exact rg_next_en (g.thAt hk) h1 (by have := E.enext k _ g.eng hk hT; rw [hb] at this; exact this)
    · intro W B arr ev g gA
      refine (rstep_en g gA hk (by omega) (by omega) h1 hb hT).mono ?_
      rintro e w' ⟨pc, d, rfl, p0, p1, ht⟩
      exact ⟨pc, d, _, rfl, p0, rfl, ht⟩
    · rintro pc d s1 rfl
      refine ⟨rfl, ?_⟩
      rintro rfl
      simp only [upd_self, if_true]
      exact ⟨⟨by show (s.x.estep k (s.th k).v true).T k = _; unfold RX.estep; simp only [upd_self]; rfl, fun _ => ⟨v0, v1⟩, hix⟩, i3, by show s.x.K + 1 ≤ 900; omega, by omega⟩
    · rintro e w' ⟨pc, ac, tk, d, s1, s2, rfl, p0, rfl, haf, ht⟩
      have hmid : RgMid n E.bnd s ⟨if d = true then s.l ++ [⟨s.st, k, 1, (s.th k).v⟩] else s.l, s.st, upd s.th k { s.th k with ins := if d = true then true else (s.th k).ins }, s.x.estep k (s.th k).v d⟩ k d := by
        refine ⟨?_, rfl, fun j e => ⟨upd_ne _ _ e, upd_ne _ _ e, rfl, rfl⟩, ⟨by simp only [upd_self], by simp only [upd_self]⟩, Nat.le_refl _, by cases d <;> simp, ?_, ?_, fun set bg e => ?_⟩
        · cases d with
          | true => exact hE2
          | false =>
            refine hE.tick.beg (k := k) (fun j e => upd_ne _ _ e) (.inl ?_)
            show upd s.x.T k _ k = _
            rw [upd_self, hT]; rfl
        · rintro rfl
          simp only [upd_self, if_true]
          exact ⟨by show (s.x.estep k (s.th k).v true).T k = _; unfold RX.estep; simp only [upd_self]; rfl, fun _ => ⟨v0, v1⟩, hix⟩
        · rintro rfl
          simp only [upd_self]
          exact .en b h1 hi hb (by show (s.x.estep k (s.th k).v false).T k = _; unfold RX.estep; simp only [upd_self]; rfl) v0 v1 hix
        · have e : upd s.x.T k _ k = _ := e
          rw [upd_self] at e
          split at e <;> cases e
      obtain ⟨q1, q2, q3, q4, q5, q6⟩ := RgMid.after hG hmid hk haf
      refine ⟨pc, ac, tk, d, s2, rfl, q1, q2, ⟨q4, .inl ⟨fun set bg e => ?_, ?_, fun set e => ?_⟩⟩, ht⟩
      · rw [hT] at e; cases e
      · cases d with
        | true => exact .inr ⟨1, _, .inl rfl, q3⟩
        | false => exact .inl q3
      · have hno : (s.x.estep k (s.th k).v d).T k ≠ .wa set true := fun e => by
          have e : upd s.x.T k _ k = _ := e
          rw [upd_self] at e
          split at e <;> cases e
        cases d with
        | false => rw [q5 rfl] at e; exact hno e
        | true =>
          rcases q6 rfl with q | q
          · rw [q] at e; exact hno e
          · exact q set e
  | wa b set h1 h2 hi hb ho s0 s1 hT =>
    have hix := lt_of_at ho
    refine (rpick_go h hA hn b0 b1 hk hp (by omega) (Q := fun pc d s1 => ∃ r, s1 = ⟨wtEv s.l s.st k set (s.th k).bg d, s.st, upd s.th k { s.th k with bg := true }, s.x.wstep k set (s.th k).bg d r⟩ ∧ (d = true → ∀ j, j < n → ¬ s.x.must k set (s.th k).bg j) ∧ r ≤ E.bnd set ∧ (r + 1 ≤ s.x.R k ∨ (∃ j v, j < n ∧ s.x.T j = .inn v ∧ E.conc set v = true) ∨ ∃ j s', j < n ∧ j ≠ k ∧ s.x.T j = .wa s' true)) ?_ ?_ ?_).mono ?_
    · intro W B arr ev g
      exact rg_next_wa (g.thAt hk) h1 h2 (by have := E.wnext k _ _ g.eng hk hT; rw [hb] at this; exact this)
    · intro W B arr ev g gA
      refine (rstep_wa g gA hk (by omega) (by omega) h1 h2 hb ho hT).mono ?_
      rintro e w' ⟨pc, d, r, rfl, p0, p1, ht, hd, hr, hr2⟩
      exact ⟨pc, d, _, rfl, p0, ⟨r, rfl, hd, hr, hr2⟩, ht⟩
    · rintro pc d s1 ⟨r, rfl, -, -, -⟩
      refine ⟨rfl, ?_⟩
      rintro rfl
      simp only [upd_self]
      exact ⟨⟨by show (s.x.wstep k set (s.th k).bg true r).T k = _; unfold RX.wstep; simp only [upd_self, if_true]; rw [hi]; rfl, (fun e => by have e : (s.th k).ins = true := e; rw [hi] at e; cases e), hix⟩, i3, by show s.x.K + 1 ≤ 900; omega, by omega⟩
    · rintro e w' ⟨pc, ac, tk, d, s1', s2, rfl, p0, ⟨r, rfl, hd, hr, hr2⟩, haf, ht⟩
      have hE2 := hE.wait hn hk (by omega) (d := d) hT s0 s1 (Mk := s.x.must k set (s.th k).bg) rfl hd
      have hmid : RgMid n E.bnd s ⟨wtEv s.l s.st k set (s.th k).bg d, s.st, upd s.th k { s.th k with bg := true }, s.x.wstep k set (s.th k).bg d r⟩ k d := by
        refine ⟨hE2, rfl, fun j e => ⟨upd_ne _ _ e, upd_ne _ _ e, upd_ne _ _ e, rfl⟩, ⟨by simp only [upd_self], by simp only [upd_self]⟩, Nat.le_refl _, ?_, ?_, ?_, fun set' bg e => ?_⟩
        · unfold wtEv
          cases (s.th k).bg <;> cases d <;> simp
        · rintro rfl
          simp only [upd_self]
          exact ⟨by show (s.x.wstep k set (s.th k).bg true r).T k = _; unfold RX.wstep; simp only [upd_self, if_true]; rw [hi]; rfl, (fun e => by have e : (s.th k).ins = true := e; rw [hi] at e; cases e), hix⟩
        · rintro rfl
          simp only [upd_self]
          exact .wa b set h1 h2 hi hb ho s0 s1 (by show (s.x.wstep k set (s.th k).bg false r).T k = _; unfold RX.wstep; simp only [upd_self]; rfl)
        · have e : upd s.x.T k _ k = _ := e
          rw [upd_self] at e
          show upd s.x.R k r k ≤ _
          rw [upd_self]
          split at e
          · cases e
          · cases e; exact hr
      obtain ⟨q1, q2, q3, q4, q5, q6⟩ := RgMid.after hG hmid hk haf
      refine ⟨pc, ac, tk, d, s2, rfl, q1, q2, ⟨q4, .inr ⟨set, (s.th k).bg, d, r, hT, p0, q3, ?_, ?_, hr, hr2⟩⟩, ht⟩
      · rintro rfl
        rw [q5 rfl]
        exact ⟨by show upd s.x.T k _ k = _; rw [upd_self]; rfl, upd_self _ _ _⟩
      · rintro rfl u e
        rcases q6 rfl with q | q
        · rw [q] at e
          have e : upd s.x.T k _ k = _ := e
          rw [upd_self] at e
          cases e
        · exact q u e
end
end Go.Proofs.YtldjlcdccnnogaaGreat
