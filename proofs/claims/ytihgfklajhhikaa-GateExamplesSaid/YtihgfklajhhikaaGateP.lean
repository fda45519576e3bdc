/- GateSteps: the program's side. -/
import Derived.Test.YtihgfklajhhikaaGateSt
import Derived.Test.YtihgfklajhhikaaGateStep
import Derived.Test.YtihgfklajhhikaaGateWt
set_option linter.unusedVariables false
set_option linter.unusedSimpArgs false
namespace Go.Lf
open Go.RowKit
/-- The blocks of an operation: its own, its section or its lock, and what is left. -/
structure GPB where
  a : Nat
  b : Nat
  v : Value
end Go.Lf
namespace Go.Proofs.Ytihgfklajhhikaa
open Go.RowKit Go.Lf
/-- A wait with its lock. -/
structure GWtAt (w : World) (wb lb g mb : Nat) (t : Int) (B : Nat) (lv : Value) (f st side : Nat) (left : List Nat) : Prop where
  head : ∃ lp, GHead w wb g t lv lp side st ∧ (left ≠ [] → lp = ptr lb)
  lva : LvAt w lv left
  own : ∀ k, lv.ownBlock = some k → k ≠ wb ∧ k ≠ lb ∧ k < w.heap.size
  ne : wb ≠ lb
  ltl : lb < w.heap.size
  lock : st = 0 → ∀ b r, left = b :: r → LockAt w lb mb ⟨f, 0, t, (B : Int) + 4 * b + 3, true, 0⟩
theorem GWtAt.keep {w w' : World} {wb lb g mb : Nat} {t : Int} {B : Nat} {lv : Value} {f st side : Nat} {left : List Nat} {S : Nat → Prop} (h : GWtAt w wb lb g mb t B lv f st side left) (hk : Keep S w w') (hn : ∀ k, (k = wb ∨ k = lb ∨ lv.ownBlock = some k) → ¬ S k) : GWtAt w' wb lb g mb t B lv f st side left := by
  obtain ⟨⟨lp, h1, h1'⟩, h2, h3, h4, h5, h6⟩ := h
  have := hk.size
  exact ⟨⟨lp, hk.at h1 (hn wb (.inl rfl)), h1'⟩, h2.keep hk (fun k e => hn k (.inr (.inr e))), fun k e => by obtain ⟨a, b, c⟩ := h3 k e; exact ⟨a, b, by omega⟩, h4, by omega, fun h0 b r hl => (h6 h0 b r hl).keep hk (hn lb (.inr (.inl rfl)))⟩
def gcnt (B b : Nat) : Option Nat → Int
  | none => -1
  | some c => ((B + 4 * b + 1 + c : Nat) : Int)
def gpat (g mb B : Nat) (w : World) (o : GOp × GPB) : Prop := match o.1 with
  | .en t s b c dn => GEnterAt w o.2.a mb t ((B : Int) + 4 * b) o.2.b ∧ SecAt w o.2.b (gcnt B b c) dn ∧ o.2.a ≠ o.2.b
  | .wa t st side left f => GWtAt w o.2.a o.2.b g mb t B o.2.v f st side left
def gphas (o : GOp × GPB) (k : Nat) : Prop := match o.1 with
  | .en .. => k = o.2.a ∨ k = o.2.b
  | .wa .. => k = o.2.a ∨ k = o.2.b ∨ o.2.v.ownBlock = some k
def GPO (g mb B : Nat) : ObLies (GOp × GPB) where
  at_ := gpat g mb B
  has := gphas
  keep := by
    rintro w w' ⟨o, p⟩ S h hk hn
    cases o with
    | en t s b c dn => exact ⟨hk.at h.1 (hn _ (.inl rfl)), hk.at h.2.1 (hn _ (.inr rfl)), h.2.2⟩
    | wa t st side left f => exact GWtAt.keep h hk hn
  lt := by
    rintro w ⟨o, p⟩ k h hh
    cases o with
    | en t s b c dn =>
      rcases hh with rfl | rfl
      · exact lt_of_block h.1
      · exact lt_of_block h.2.1
    | wa t st side left f =>
      obtain ⟨⟨lp, h1, -⟩, h2, h3, h4, h5, h6⟩ := (show GWtAt _ _ _ _ _ _ _ _ _ _ _ _ from h)
      rcases hh with rfl | rfl | e
      · exact lt_of_block h1
      · exact h5
      · exact (h3 k e).2.2
/-- The engine with its memory. -/
structure GSys (g r mb B n : Nat) (w : World) (A : Nat → Prop) (ml : List (Int × Value)) (ws : List Int) (log : List Acc) (F : Nat → Prop) : Prop where
  mem : MemAt w mb F ws log
  eng : GEngAt w g r mb (B : Int) n ml
  fg : ¬ F g
  fr : ¬ F r
  foot : ∀ k, A k ↔ F k ∨ k = g ∨ k = r
def GPS (g r mb B n : Nat) : Lies (List (Int × Value) × List Int × List Acc) where
  lie w A s := ∃ F, GSys g r mb B n w A s.1 s.2.1 s.2.2 F
  keep := fun ⟨F, h⟩ hk hn => ⟨F, h.mem.keep hk (fun k hF => hn k ((h.foot k).2 (.inl hF))), h.eng.keep hk (hn g ((h.foot g).2 (.inr (.inl rfl)))) (hn r ((h.foot r).2 (.inr (.inr rfl)))), h.fg, h.fr, h.foot⟩
  lt := fun ⟨F, h⟩ k hA => by
    rcases (h.foot k).1 hA with e | rfl | rfl
    · exact h.mem.lt k e
    · exact lt_of_block h.eng.head
    · exact h.eng.map.lt
/-- The map of the sections says whose each slot is. -/
def GMl (S : GSt) (bo : List (GOp × GPB)) (ml : List (Int × Value)) : Prop := (mkeys ml).Nodup ∧ ∀ k : Int, mlook ml k = if k < 0 then none else (S.sl[k.toNat]?).bind fun x => if x.ph = 0 then none else (bo[x.ow]?).map fun o => ptr o.2.b
structure GPAt (g r mb B n : Nat) (w : World) (A : Nat → Prop) (S : GSt) (bo : List (GOp × GPB)) (F : Nat → Prop) (ml : List (Int × Value)) : Prop where
  ob : ObjsB (GPS g r mb B n) (GPO g mb B) w A (ml, S.ws, S.log) bo F
  ops : S.ops = bo.map Prod.fst
  ml : GMl S bo ml
def GLies (g r mb B n : Nat) : Lies (GSt × List (GOp × GPB)) where
  lie w A x := ∃ F ml, GPAt g r mb B n w A x.1 x.2 F ml
  keep := fun ⟨F, ml, h⟩ hk hn => ⟨F, ml, h.ob.keep hk hn, h.ops, h.ml⟩
  lt := fun ⟨_, _, h⟩ k hA => h.ob.lt k hA

section
variable {w w' : World} {g r mb B n : Nat} {F F' A : Nat → Prop} {ml : List (Int × Value)} {ws ws' : List Int} {log : List Acc} {t : Int} {wb lb st side f st' side' f' : Nat} {lv : Value} {left left' : List Nat}
/-- Behind a step of a wait. -/
def GWStTo (w : World) (wb lb g mb B : Nat) (F : Nat → Prop) (t : Int) (lv : Value) (f st side : Nat) (left : List Nat) (ws : List Int) (log : List Acc) (w' : World) : Prop :=
  ∃ F' lb' lv', MemAt w' mb F' ws log ∧ GWtAt w' wb lb' g mb t B lv' f st side left ∧ Keep (fun k => F k ∨ k = wb ∨ k = lb) w w' ∧ Foot w F F' ∧ (∀ k, lv'.ownBlock = some k → lv.ownBlock = some k) ∧ (lb' = lb ∨ w.heap.size ≤ lb') ∧ ∀ k, (k = wb ∨ k = lb' ∨ lv'.ownBlock = some k) → ¬ F' k
/-- What was walked is what is said. -/
theorem gwst_fin {w1 : World} (hw : GWtAt w wb lb g mb t B lv f st side left) (fw : ∀ k, (k = wb ∨ k = lb ∨ lv.ownBlock = some k) → ¬ F k) {log' : List Acc} (kk : Keep (fun k => F k ∨ k = lb ∨ k = wb) w w1) (m1 : MemAt w1 mb F' ws' log') (ff : Foot w F F') (lb' : Nat) (lv' lp' : Value) {st0 : Nat}
    (hd : GHead w1 wb g t lv' lp' side' st0) (hk1 : Keep (fun k => k = wb) w1 w') (turn : ∀ lv lp side st0, GHead w1 wb g t lv lp side st0 → GHead w' wb g t lv lp side st') (hlp : left' ≠ [] → lp' = ptr lb') (hlv : LvAt w1 lv' left') (how : ∀ k, lv'.ownBlock = some k → lv.ownBlock = some k)
    (hlb : lb' = lb ∨ (w.heap.size ≤ lb' ∧ ¬ F' lb' ∧ lb' < w1.heap.size)) (hlk : st' = 0 → ∀ b r, left' = b :: r → LockAt w1 lb' mb ⟨f', 0, t, (B : Int) + 4 * b + 3, true, 0⟩) :
    GWStTo w wb lb g mb B F t lv f' st' side' left' ws' log' w' := by
  obtain ⟨⟨lp, h1, h1'⟩, h2, h3, h4, h5, h6⟩ := hw
  have hwb := lt_of_block h1
  have s1 := kk.size
  have s2 := hk1.size
  have nF : ∀ k, (k = wb ∨ k = lb ∨ lv.ownBlock = some k) → k < w.heap.size → ¬ F' k := fun k hk hl e => (ff k e).elim (fw k hk) (fun h => by omega)
  have nwb : ¬ F' wb := nF wb (.inl rfl) hwb
  have nlb : lb' ≠ wb := by
    rcases hlb with e | ⟨e, -⟩
    · rw [e]; exact fun h => h4 h.symm
    · omega
  have ltl : lb' < w1.heap.size := by
    rcases hlb with e | ⟨-, -, e⟩
    · omega
    · exact e
  refine ⟨F', lb', lv', m1.keep hk1 (fun k hk e => nwb (e ▸ hk)), ⟨⟨lp', turn _ _ _ _ hd, hlp⟩, hlv.keep hk1 (fun k hk => (h3 k (how k hk)).1), fun k hk => ?_, fun e => nlb e.symm, by omega, fun h0 b r hl => (hlk h0 b r hl).keep hk1 nlb⟩, (kk.trans hk1 (fun k _ e => .inr (.inr e))).mono (fun k _ e => ?_), ff, how, ?_, fun k hk => ?_⟩
  · obtain ⟨a1, a2, a3⟩ := h3 k (how k hk)
    refine ⟨a1, ?_, by omega⟩
    rcases hlb with e | ⟨e, -⟩
    · rw [e]; exact a2
    · omega
  · rcases e with e | e | e
    · exact .inl e
    · exact .inr (.inr e)
    · exact .inr (.inl e)
  · rcases hlb with e | ⟨e, -⟩
    · exact .inl e
    · exact .inr e
  · rcases hk with e | e | e
    · subst e; exact nwb
    · rcases hlb with e' | ⟨-, e', -⟩
      · rw [e, e']; exact nF lb (.inr (.inl rfl)) h5
      · rw [e]; exact e'
    · exact nF k (.inr (.inr (how k e))) (h3 k (how k e)).2.2
set_option maxHeartbeats 2000000 in
theorem gwstep_any (hm : MemAt w mb F ws log) (he : GEngAt w g r mb (B : Int) n ml) (fg : ¬ F g) (hw : GWtAt w wb lb g mb t B lv f st side left) (fw : ∀ k, (k = wb ∨ k = lb ∨ lv.ownBlock = some k) → ¬ F k) (t0 : 0 ≤ t) (t1 : t < 64) (hB : B ≤ 1000) (hn : n ≤ 16) (hsd : side < 2) (hl : ∀ b ∈ left, b < n) (hlen : B + 4 * n ≤ ws.length) (hlog : log.length < 100000000) (hf : f < 100000000) {a : Acc} (hst : GWStep B t ws st side left f ws' a st' side' left' f') :
    Calls Try.prog 57 #[ptr wb] w fun e w' => e = .returned (.tuple #[.int .u8 (gpc st), .bool (st' == 6)]) ∧ GWStTo w wb lb g mb B F t lv f' st' side' left' ws' (log ++ [a]) w' := by
  obtain ⟨⟨lp, hd, hlp⟩, h2, h3, h4, h5, h6⟩ := id hw
  have fwb := fw wb (.inl rfl)
  have flb := fw lb (.inr (.inl rfl))
  obtain ⟨b, rest, rfl⟩ : ∃ b rest, left = b :: rest := by cases hst <;> exact ⟨_, _, rfl⟩
  obtain rfl := hlp (by simp)
  have hbn := hl b (List.mem_cons_self ..)
  obtain ⟨x, c, rfl, hr, hcap⟩ := h2
  have e0 : ((B : Int) + 4 * (b : Int)).toNat = B + 4 * b := by omega
  have e3 : ((B : Int) + 4 * (b : Int) + 3).toNat = B + 4 * b + 3 := by omega
  have lvk : ∀ {w1 : World}, Keep (fun k => F k ∨ k = lb ∨ k = wb) w w1 → LvAt w1 (.slice x (rest.length + 1) c) (b :: rest) := fun hk => LvAt.keep (l := b :: rest) ⟨x, c, rfl, hr, hcap⟩ hk (fun k hk e => by
    rcases e with e | e | e
    · exact fw k (.inr (.inr hk)) e
    · exact (h3 k hk).2.1 e
    · exact (h3 k hk).1 e)
  cases hst with
  | @lock _ _ _ _ hx =>
    have hc := glocks_any hm hd _ (h6 rfl b rest rfl) rfl fwb flb t0 t1 (by simp only; omega) 0 (by simp only; rw [e3]; exact hx) (by simp only; omega) (by simp only; omega) rfl (by omega)
    simp only [e3, if_true] at hc
    refine (gwstep0 hd 1 (fun w1 hq => ?_) (by decide) hc).mono ?_
    · obtain ⟨F2, -, q, -⟩ := hq; exact ⟨_, _, _, _, q⟩
    · rintro e w2 ⟨rfl, w1, ⟨F2, m1, q1, q2, q3, q4⟩, k1, tn⟩
      have kk := q3.mono (T := fun k => F k ∨ k = lb ∨ k = wb) (fun k _ e => e.elim .inl (fun e => .inr (.inl e)))
      exact ⟨rfl, gwst_fin hw fw kk m1 q4 lb _ _ q1 k1 tn (fun _ => rfl) (lvk kk) (fun _ h => h) (.inl rfl) (fun h => by omega)⟩
  | @busy _ _ _ _ v hx hne =>
    have hc := glocks_any hm hd _ (h6 rfl b rest rfl) rfl fwb flb t0 t1 (by simp only; omega) v (by simp only; rw [e3]; exact hx) (by simp only; omega) (by simp only; omega) rfl (by omega)
    simp only [e3, if_neg hne] at hc
    refine (gwstep0 hd 0 (fun w1 hq => ?_) (by decide) hc).mono ?_
    · obtain ⟨F2, -, q, -⟩ := hq; exact ⟨_, _, _, _, q⟩
    · rintro e w2 ⟨rfl, w1, ⟨F2, m1, q1, q2, q3, q4⟩, k1, tn⟩
      have kk := q3.mono (T := fun k => F k ∨ k = lb ∨ k = wb) (fun k _ e => e.elim .inl (fun e => .inr (.inl e)))
      refine ⟨rfl, gwst_fin hw fw kk m1 q4 lb _ _ q1 k1 tn (fun _ => rfl) (lvk kk) (fun _ h => h) (.inl rfl) (fun _ b' r' hl' => ?_)⟩
      simp only [List.cons.injEq] at hl'
      obtain ⟨rfl, rfl⟩ := hl'
      exact q2
  | @look _ _ _ _ _ hx =>
    have hc := glooks_ok (r := r) (n := n) hm hd he.head hr fg fwb (by omega) (by omega) (by omega) t0 t1 (side' : Int) (by rw [e0]; exact hx) (by omega)
    refine (gwstep1 hd 2 (fun w1 hq => ?_) (by decide) hc).mono ?_
    · obtain ⟨F2, -, q, -⟩ := hq; exact ⟨_, _, _, _, q⟩
    · rintro e w2 ⟨rfl, w1, ⟨F2, m1, q1, q3, q4⟩, k1, tn⟩
      have kk := q3.mono (T := fun k => F k ∨ k = lb ∨ k = wb) (fun k _ e => e.elim .inl (fun e => .inr (.inr e)))
      exact ⟨rfl, gwst_fin hw fw kk m1 q4 lb _ _ q1 k1 tn (fun _ => rfl) (lvk kk) (fun _ h => h) (.inl rfl) (fun h => by omega)⟩
  | @other _ _ _ _ v hx =>
    have hc := gdrainsO_ok (r := r) (n := n) hm hd he.head hr fg fwb (by omega) (by omega) (by omega) t0 t1 side rfl (by omega) v (by rw [show ((B : Int) + 4 * (b : Int) + 1 + (((side + 1) % 2 : Nat) : Int)).toNat = B + 4 * b + 1 + (side + 1) % 2 by omega]; exact hx) (by omega)
    by_cases hz : v = 0
    · simp only [if_pos hz] at hc ⊢
      refine (gwstep2 hd 3 (fun w1 hq => ?_) (by decide) hc).mono ?_
      · obtain ⟨F2, -, q, -⟩ := hq; exact ⟨_, _, _, _, q⟩
      · rintro e w2 ⟨rfl, w1, ⟨F2, m1, q1, q3, q4⟩, k1, tn⟩
        have kk := q3.mono (T := fun k => F k ∨ k = lb ∨ k = wb) (fun k _ e => e.elim .inl (fun e => .inr (.inr e)))
        exact ⟨rfl, gwst_fin hw fw kk m1 q4 lb _ _ q1 k1 tn (fun _ => rfl) (lvk kk) (fun _ h => h) (.inl rfl) (fun h => by omega)⟩
    · simp only [if_neg hz] at hc ⊢
      refine (gwstep2 hd 2 (fun w1 hq => ?_) (by decide) hc).mono ?_
      · obtain ⟨F2, -, q, -⟩ := hq; exact ⟨_, _, _, _, q⟩
      · rintro e w2 ⟨rfl, w1, ⟨F2, m1, q1, q3, q4⟩, k1, tn⟩
        have kk := q3.mono (T := fun k => F k ∨ k = lb ∨ k = wb) (fun k _ e => e.elim .inl (fun e => .inr (.inr e)))
        exact ⟨rfl, gwst_fin hw fw kk m1 q4 lb _ _ q1 k1 tn (fun _ => rfl) (lvk kk) (fun _ h => h) (.inl rfl) (fun h => by omega)⟩
  | @flip _ _ _ _ v hx =>
    have hc := gflips_ok (r := r) (n := n) hm hd he.head hr fg fwb (by omega) (by omega) (by omega) t0 t1 side rfl (by omega) v (by rw [e0]; exact hx) (by omega)
    rw [e0] at hc
    refine (gwstep3 hd 4 (fun w1 hq => ?_) (by decide) hc).mono ?_
    · obtain ⟨F2, -, q, -⟩ := hq; exact ⟨_, _, _, _, q⟩
    · rintro e w2 ⟨rfl, w1, ⟨F2, m1, q1, q3, q4⟩, k1, tn⟩
      have kk := q3.mono (T := fun k => F k ∨ k = lb ∨ k = wb) (fun k _ e => e.elim .inl (fun e => .inr (.inr e)))
      exact ⟨rfl, gwst_fin hw fw kk m1 q4 lb _ _ q1 k1 tn (fun _ => rfl) (lvk kk) (fun _ h => h) (.inl rfl) (fun h => by omega)⟩
  | @drain _ _ _ _ v hx =>
    have hc := gdrains_ok (r := r) (n := n) hm hd he.head hr fg fwb (by omega) (by omega) (by omega) t0 t1 side rfl (by omega) v (by rw [show ((B : Int) + 4 * (b : Int) + 1 + (((side) % 2 : Nat) : Int)).toNat = B + 4 * b + 1 + side % 2 by omega]; exact hx) (by omega)
    by_cases hz : v = 0
    · simp only [if_pos hz] at hc ⊢
      refine (gwstep4 hd 5 (fun w1 hq => ?_) (by decide) hc).mono ?_
      · obtain ⟨F2, -, q, -⟩ := hq; exact ⟨_, _, _, _, q⟩
      · rintro e w2 ⟨rfl, w1, ⟨F2, m1, q1, q3, q4⟩, k1, tn⟩
        have kk := q3.mono (T := fun k => F k ∨ k = lb ∨ k = wb) (fun k _ e => e.elim .inl (fun e => .inr (.inr e)))
        exact ⟨rfl, gwst_fin hw fw kk m1 q4 lb _ _ q1 k1 tn (fun _ => rfl) (lvk kk) (fun _ h => h) (.inl rfl) (fun h => by omega)⟩
    · simp only [if_neg hz] at hc ⊢
      refine (gwstep4 hd 4 (fun w1 hq => ?_) (by decide) hc).mono ?_
      · obtain ⟨F2, -, q, -⟩ := hq; exact ⟨_, _, _, _, q⟩
      · rintro e w2 ⟨rfl, w1, ⟨F2, m1, q1, q3, q4⟩, k1, tn⟩
        have kk := q3.mono (T := fun k => F k ∨ k = lb ∨ k = wb) (fun k _ e => e.elim .inl (fun e => .inr (.inr e)))
        exact ⟨rfl, gwst_fin hw fw kk m1 q4 lb _ _ q1 k1 tn (fun _ => rfl) (lvk kk) (fun _ h => h) (.inl rfl) (fun h => by omega)⟩
  | @unlock _ _ _ _ hx =>
    have le : ∀ b' : Nat, b' < n → lckErr t ((B : Int) + 4 * (b' : Int) + 3) 0 ws.length = 0 := fun b' hb' => by
      unfold lckErr
      rw [if_neg (by omega), if_neg (by omega)]
    have hc := gunlocks_ok (r := r) (n := n) hm hd he.head hr fg fwb (by omega) (by omega) (by omega) t0 t1 hcap (fun k hk => ⟨fw k (.inr (.inr hk)), (h3 k hk).1⟩) (fun b' hb' => ⟨by have := hl b' (List.mem_cons_of_mem _ hb'); omega, le b' (hl b' (List.mem_cons_of_mem _ hb'))⟩) (le b hbn) (by rw [e3]; exact hx) (by omega)
    rw [e3] at hc
    refine (gwstep5 hd (if left' = [] then 6 else 0) (fun w1 hq => ?_) (by split <;> decide) hc).mono ?_
    · obtain ⟨F2, lv', lp', -, q, -⟩ := hq; exact ⟨_, _, _, _, q⟩
    · rintro e w2 ⟨rfl, w1, ⟨F2, lv', lp', m1, q1, q2, q5, q3, q4, q6⟩, k1, tn⟩
      refine ⟨rfl, ?_⟩
      have kk := q3.mono (T := fun k => F k ∨ k = lb ∨ k = wb) (fun k _ e => e.elim .inl (fun e => .inr (.inr e)))
      cases left' with
      | nil => exact gwst_fin hw fw kk m1 q4 lb _ _ q1 k1 tn (fun h => absurd rfl h) q2 q5 (.inl rfl) (fun _ b' r' hl => by cases hl)
      | cons b' r' =>
        obtain ⟨lb', z1, z2, z3, z4⟩ := q6 b' r' rfl
        exact gwst_fin hw fw kk m1 q4 lb' _ _ q1 k1 tn (fun _ => z1) q2 q5 (.inr ⟨z2, z4, lt_of_block z3⟩) (fun _ b'' r'' hl => by
          simp only [List.cons.injEq] at hl
          obtain ⟨rfl, rfl⟩ := hl
          exact z3)
end
end Go.Proofs.Ytihgfklajhhikaa
