/- GateSteps: the program's side. -/
import Derived.Test.YtihgfklajhhikaaGateSt
import Derived.Test.YtihgfklajhhikaaGateStep
import Derived.Test.YtihgfklajhhikaaGateWt
set_option linter.unusedVariables false
set_option linter.unusedSimpArgs false
namespace Go.Lf
open Go.RowKit
/-- The blocks of an operation: its own, its section or its lock, and what is left. -/
structure GPB where
  a : Nat
  b : Nat
  v : Value
end Go.Lf
namespace Go.Proofs.Ytihgfklajhhikaa
open Go.RowKit Go.Lf
/-- A wait with its lock. -/
structure GWtAt (w : World) (wb lb g mb : Nat) (t : Int) (B : Nat) (lv : Value) (f st side : Nat) (left : List Nat) : Prop where
  head : ∃ lp, GHead w wb g t lv lp side st ∧ (left ≠ [] → lp = ptr lb)
  lva : LvAt w lv left
  own : ∀ k, lv.ownBlock = some k → k ≠ wb ∧ k ≠ lb ∧ k < w.heap.size
  ne : wb ≠ lb
  ltl : lb < w.heap.size
  lock : st = 0 → ∀ b r, left = b :: r → LockAt w lb mb ⟨f, 0, t, (B : Int) + 4 * b + 3, true, 0⟩
theorem GWtAt.keep {w w' : World} {wb lb g mb : Nat} {t : Int} {B : Nat} {lv : Value} {f st side : Nat} {left : List Nat} {S : Nat → Prop} (h : GWtAt w wb lb g mb t B lv f st side left) (hk : Keep S w w') (hn : ∀ k, (k = wb ∨ k = lb ∨ lv.ownBlock = some k) → ¬ S k) : GWtAt w' wb lb g mb t B lv f st side left := by
  obtain ⟨⟨lp, h1, h1'⟩, h2, h3, h4, h5, h6⟩ := h
  have := hk.size
  exact ⟨⟨lp, hk.at h1 (hn wb (.inl rfl)), h1'⟩, h2.keep hk (fun k e => hn k (.inr (.inr e))), fun k e => by obtain ⟨a, b, c⟩ := h3 k e; exact ⟨a, b, by omega⟩, h4, by omega, fun h0 b r hl => (h6 h0 b r hl).keep hk (hn lb (.inr (.inl rfl)))⟩
def gcnt (B b : Nat) : Option Nat → Int
  | none => -1
  | some c => ((B + 4 * b + 1 + c : Nat) : Int)
def gpat (g mb B : Nat) (w : World) (o : GOp × GPB) : Prop := match o.1 with
  | .en t s b c dn => GEnterAt w o.2.a mb t ((B : Int) + 4 * b) o.2.b ∧ SecAt w o.2.b (gcnt B b c) dn ∧ o.2.a ≠ o.2.b
  | .wa t st side left f => GWtAt w o.2.a o.2.b g mb t B o.2.v f st side left
def gphas (o : GOp × GPB) (k : Nat) : Prop := match o.1 with
  | .en .. => k = o.2.a ∨ k = o.2.b
  | .wa .. => k = o.2.a ∨ k = o.2.b ∨ o.2.v.ownBlock = some k
def GPO (g mb B : Nat) : ObLies (GOp × GPB) where
  at_ := gpat g mb B
  has := gphas
  keep := by
    rintro w w' ⟨o, p⟩ S h hk hn
    cases o with
    | en t s b c dn => exact ⟨hk.at h.1 (hn _ (.inl rfl)), hk.at h.2.1 (hn _ (.inr rfl)), h.2.2⟩
    | wa t st side left f => exact GWtAt.keep h hk hn
  lt := by
    rintro w ⟨o, p⟩ k h hh
    cases o with
    | en t s b c dn =>
      rcases hh with rfl | rfl
      · exact lt_of_block h.1
      · exact lt_of_block h.2.1
    | wa t st side left f =>
      obtain ⟨⟨lp, h1, -⟩, h2, h3, h4, h5, h6⟩ := (show GWtAt _ _ _ _ _ _ _ _ _ _ _ _ from h)
      rcases hh with rfl | rfl | e
      · exact lt_of_block h1
      · exact h5
      · exact (h3 k e).2.2
/-- The engine with its memory. -/
structure GSys (g r mb B n : Nat) (w : World) (A : Nat → Prop) (ml : List (Int × Value)) (ws : List Int) (log : List Acc) (F : Nat → Prop) : Prop where
  mem : MemAt w mb F ws log
  eng : GEngAt w g r mb (B : Int) n ml
  fg : ¬ F g
  fr : ¬ F r
  foot : ∀ k, A k ↔ F k ∨ k = g ∨ k = r
def GPS (g r mb B n : Nat) : Lies (List (Int × Value) × List Int × List Acc) where
  lie w A s := ∃ F, GSys g r mb B n w A s.1 s.2.1 s.2.2 F
  keep := fun ⟨F, h⟩ hk hn => ⟨F, h.mem.keep hk (fun k hF => hn k ((h.foot k).2 (.inl hF))), h.eng.keep hk (hn g ((h.foot g).2 (.inr (.inl rfl)))) (hn r ((h.foot r).2 (.inr (.inr rfl)))), h.fg, h.fr, h.foot⟩
  lt := fun ⟨F, h⟩ k hA => by
    rcases (h.foot k).1 hA with e | rfl | rfl
    · exact h.mem.lt k e
    · exact lt_of_block h.eng.head
    · exact h.eng.map.lt
/-- The map of the sections says whose each slot is. -/
def GMl (S : GSt) (bo : List (GOp × GPB)) (ml : List (Int × Value)) : Prop := (mkeys ml).Nodup ∧ ∀ k : Int, mlook ml k = if k < 0 then none else (S.sl[k.toNat]?).bind fun x => if x.ph = 0 then none else (bo[x.ow]?).map fun o => ptr o.2.b
structure GPAt (g r mb B n : Nat) (w : World) (A : Nat → Prop) (S : GSt) (bo : List (GOp × GPB)) (F : Nat → Prop) (ml : List (Int × Value)) : Prop where
  ob : ObjsB (GPS g r mb B n) (GPO g mb B) w A (ml, S.ws, S.log) bo F
  ops : S.ops = bo.map Prod.fst
  ml : GMl S bo ml
def GLies (g r mb B n : Nat) : Lies (GSt × List (GOp × GPB)) where
  lie w A x := ∃ F ml, GPAt g r mb B n w A x.1 x.2 F ml
  keep := fun ⟨F, ml, h⟩ hk hn => ⟨F, ml, h.ob.keep hk hn, h.ops, h.ml⟩
  lt := fun ⟨_, _, h⟩ k hA => h.ob.lt k hA

section
variable {w w' : World} {g r mb B n : Nat} {F F' A : Nat → Prop} {ml : List (Int × Value)} {ws ws' : List Int} {log : List Acc} {t : Int} {wb lb st side f st' side' f' : Nat} {lv : Value} {left left' : List Nat}
/-- Behind a step of a wait. -/
def GWStTo (w : World) (wb lb g mb B : Nat) (F : Nat → Prop) (t : Int) (lv : Value) (f st side : Nat) (left : List Nat) (ws : List Int) (log : List Acc) (w' : World) : Prop :=
  ∃ F' lb' lv', MemAt w' mb F' ws log ∧ GWtAt w' wb lb' g mb t B lv' f st side left ∧ Keep (fun k => F k ∨ k = wb ∨ k = lb) w w' ∧ Foot w F F' ∧ (∀ k, lv'.ownBlock = some k → lv.ownBlock = some k) ∧ (lb' = lb ∨ w.heap.size ≤ lb') ∧ ∀ k, (k = wb ∨ k = lb' ∨ lv'.ownBlock = some k) → ¬ F' k
/-- What was walked is what is said. -/
theorem gwst_fin {w1 : World} (hw : GWtAt w wb lb g mb t B lv f st side left) (fw : ∀ k, (k = wb ∨ k = lb ∨ lv.ownBlock = some k) → ¬ F k) {log' : List Acc} (kk : Keep (fun k => F k ∨ k = lb ∨ k = wb) w w1) (m1 : MemAt w1 mb F' ws' log') (ff : Foot w F F') (lb' : Nat) (lv' lp' : Value) {st0 : Nat}
    (hd : GHead w1 wb g t lv' lp' side' st0) (hk1 : Keep (fun k => k = wb) w1 w') (turn : ∀ lv lp side st0, GHead w1 wb g t lv lp side st0 → GHead w' wb g t lv lp side st') (hlp : left' ≠ [] → lp' = ptr lb') (hlv : LvAt w1 lv' left') (how : ∀ k, lv'.ownBlock = some k → lv.ownBlock = some k)
    (hlb : lb' = lb ∨ (w.heap.size ≤ lb' ∧ ¬ F' lb' ∧ lb' < w1.heap.size)) (hlk : st' = 0 → ∀ b r, left' = b :: r → LockAt w1 lb' mb ⟨f', 0, t, (B : Int) + 4 * b + 3, true, 0⟩) :
    GWStTo w wb lb g mb B F t lv f' st' side' left' ws' log' w' := by
  obtain ⟨⟨lp, h1, h1'⟩, h2, h3, h4, h5, h6⟩ := hw
  have hwb := lt_of_block h1
  have s1 := kk.size
  have s2 := hk1.size
  have nF : ∀ k, (k = wb ∨ k = lb ∨ lv.ownBlock = some k) → k < w.heap.size → ¬ F' k := fun k hk hl e => (ff k e).elim (fw k hk) (fun h => by omega)
  have nwb : ¬ F' wb := nF wb (.inl rfl) hwb
  have nlb : lb' ≠ wb := by
    rcases hlb with e | ⟨e, -⟩
    · rw [e]; exact fun h => h4 h.symm
    · omega
  have ltl : lb' < w1.heap.size := by
    rcases hlb with e | ⟨-, -, e⟩
    · omega
    · exact e
  refine ⟨F', lb', lv', m1.keep hk1 (fun k hk e => nwb (e ▸ hk)), ⟨⟨lp', turn _ _ _ _ hd, hlp⟩, hlv.keep hk1 (fun k hk => (h3 k (how k hk)).1), fun k hk => ?_, fun e => nlb e.symm, by omega, fun h0 b r hl => (hlk h0 b r hl).keep hk1 nlb⟩, (kk.trans hk1 (fun k _ e => .inr (.inr e))).mono (fun k _ e => ?_), ff, how, ?_, fun k hk => ?_⟩
  · obtain ⟨a1, a2, a3⟩ := h3 k (how k hk)
    refine ⟨a1, ?_, by omega⟩
    rcases hlb with e | ⟨e, -⟩
    · rw [e]; exact a2
    · omega
  · rcases e with e | e | e
    · exact .inl e
    · exact .inr (.inr e)
    · exact .inr (.inl e)
  · rcases hlb with e | ⟨e, -⟩
    · exact .inl e
    · exact .inr e
  · rcases hk with e | e | e
    · subst e; exact nwb
    · rcases hlb with e' | ⟨-, e', -⟩
      · rw [e, e']; exact nF lb (.inr (.inl rfl)) h5
      · rw [e]; exact e'
    · exact nF k (.inr (.inr (how k e))) (h3 k (how k e)).2.2
set_option maxHeartbeats 2000000 in
theorem gwstep_any (hm : MemAt w mb F ws log) (he : GEngAt w g r mb (B : Int) n ml) (fg : ¬ F g) (hw : GWtAt w wb lb g mb t B lv f st side left) (fw : ∀ k, (k = wb ∨ k = lb ∨ lv.ownBlock = some k) → ¬ F k) (t0 : 0 ≤ t) (t1 : t < 64) (hB : B ≤ 1000) (hn : n ≤ 16) (hsd : side < 2) (hl : ∀ b ∈ left, b < n) (hlen : B + 4 * n ≤ ws.length) (hlog : log.length < 100000000) (hf : f < 100000000) {a : Acc} (hst : GWStep B t ws st side left f ws' a st' side' left' f') :
    Calls Try.prog 57 #[ptr wb] w fun e w' => e = .returned (.tuple #[.int .u8 (gpc st), .bool (st' == 6)]) ∧ GWStTo w wb lb g mb B F t lv f' st' side' left' ws' (log ++ [a]) w' := by
  obtain ⟨⟨lp, hd, hlp⟩, h2, h3, h4, h5, h6⟩ := id hw
  have fwb := fw wb (.inl rfl)
  have flb := fw lb (.inr (.inl rfl))
  obtain ⟨b, rest, rfl⟩ : ∃ b rest, left = b :: rest := by cases hst <;> exact ⟨_, _, rfl⟩
  obtain rfl := hlp (by simp)
  have hbn := hl b (List.mem_cons_self ..)
  obtain ⟨x, c, rfl, hr, hcap⟩ := h2
  have e0 : ((B : Int) + 4 * (b : Int)).toNat = B + 4 * b := by omega
  have e3 : ((B : Int) + 4 * (b : Int) + 3).toNat = B + 4 * b + 3 := by omega
  have lvk : ∀ {w1 : World}, Keep (fun k => F k ∨ k = lb ∨ k = wb) w w1 → LvAt w1 (.slice x (rest.length + 1) c) (b :: rest) := fun hk => LvAt.keep (l := b :: rest) ⟨x, c, rfl, hr, hcap⟩ hk (fun k hk e => by
    rcases e with e | e | e
    · exact fw k (.inr (.inr hk)) e
    · exact (h3 k hk).2.1 e
    · exact (h3 k hk).1 e)
  cases hst with
  | @lock _ _ _ _ hx =>
    have hc := glocks_any hm hd _ (h6 rfl b rest rfl) rfl fwb flb t0 t1 (by simp only; omega) 0 (by simp only; rw [e3]; exact hx) (by simp only; omega) (by simp only; omega) rfl (by omega)
    simp only [e3, if_true] at hc
    refine (gwstep0 hd 1 (fun w1 hq => ?_) (by decide) hc).mono ?_
    · obtain ⟨F2, -, q, -⟩ := hq; exact ⟨_, _, _, _, q⟩
    · rintro e w2 ⟨rfl, w1, ⟨F2, m1, q1, q2, q3, q4⟩, k1, tn⟩
      have kk := q3.mono (T := fun k => F k ∨ k = lb ∨ k = wb) (fun k _ e => e.elim .inl (fun e => .inr (.inl e)))
      exact ⟨rfl, gwst_fin hw fw kk m1 q4 lb _ _ q1 k1 tn (fun _ => rfl) (lvk kk) (fun _ h => h) (.inl rfl) (fun h => by omega)⟩
  | @busy _ _ _ _ v hx hne =>
    have hc := glocks_any hm hd _ (h6 rfl b rest rfl) rfl fwb flb t0 t1 (by simp only; omega) v (by simp only; rw [e3]; exact hx) (by simp only; omega) (by simp only; omega) rfl (by omega)
    simp only [e3, if_neg hne] at hc
    refine (gwstep0 hd 0 (fun w1 hq => ?_) (by decide) hc).mono ?_
    · obtain ⟨F2, -, q, -⟩ := hq; exact ⟨_, _, _, _, q⟩
    · rintro e w2 ⟨rfl, w1, ⟨F2, m1, q1, q2, q3, q4⟩, k1, tn⟩
      have kk := q3.mono (T := fun k => F k ∨ k = lb ∨ k = wb) (fun k _ e => e.elim .inl (fun e => .inr (.inl e)))
      refine ⟨rfl, gwst_fin hw fw kk m1 q4 lb _ _ q1 k1 tn (fun _ => rfl) (lvk kk) (fun _ h => h) (.inl rfl) (fun _ b' r' hl' => ?_)⟩
      simp only [List.cons.injEq] at hl'
      obtain ⟨rfl, rfl⟩ := hl'
      exact q2
  | @look _ _ _ _ _ hx =>
    have hc := glooks_ok (r := r) (n := n) hm hd he.head hr fg fwb (by omega) (by omega) (by omega) t0 t1 (side' : Int) (by rw [e0]; exact hx) (by omega)
    refine (gwstep1 hd 2 (fun w1 hq => ?_) (by decide) hc).mono ?_
    · obtain ⟨F2, -, q, -⟩ := hq; exact ⟨_, _, _, _, q⟩
    · rintro e w2 ⟨rfl, w1, ⟨F2, m1, q1, q3, q4⟩, k1, tn⟩
      have kk := q3.mono (T := fun k => F k ∨ k = lb ∨ k = wb) (fun k _ e => e.elim .inl (fun e => .inr (.inr e)))
      exact ⟨rfl, gwst_fin hw fw kk m1 q4 lb _ _ q1 k1 tn (fun _ => rfl) (lvk kk) (fun _ h => h) (.inl rfl) (fun h => by omega)⟩
  | @other _ _ _ _ v hx =>
    have hc := gdrainsO_ok (r := r) (n := n) hm hd he.head hr fg fwb (by omega) (by omega) (by omega) t0 t1 side rfl (by omega) v (by rw [show ((B : Int) + 4 * (b : Int) + 1 + (((side + 1) % 2 : Nat) : Int)).toNat = B + 4 * b + 1 + (side + 1) % 2 by omega]; exact hx) (by omega)
    by_cases hz : v = 0
    · simp only [if_pos hz] at hc ⊢
      refine (gwstep2 hd 3 (fun w1 hq => ?_) (by decide) hc).mono ?_
      · obtain ⟨F2, -, q, -⟩ := hq; exact ⟨_, _, _, _, q⟩
      · rintro e w2 ⟨rfl, w1, ⟨F2, m1, q1, q3, q4⟩, k1, tn⟩
        have kk := q3.mono (T := fun k => F k ∨ k = lb ∨ k = wb) (fun k _ e => e.elim .inl (fun e => .inr (.inr e)))
        exact ⟨rfl, gwst_fin hw fw kk m1 q4 lb _ _ q1 k1 tn (fun _ => rfl) (lvk kk) (fun _ h => h) (.inl rfl) (fun h => by omega)⟩
    · simp only [if_neg hz] at hc ⊢
      refine (gwstep2 hd 2 (fun w1 hq => ?_) (by decide) hc).mono ?_
      · obtain ⟨F2, -, q, -⟩ := hq; exact ⟨_, _, _, _, q⟩
      · rintro e w2 ⟨rfl, w1, ⟨F2, m1, q1, q3, q4⟩, k1, tn⟩
        have kk := q3.mono (T := fun k => F k ∨ k = lb ∨ k = wb) (fun k _ e => e.elim .inl (fun e => .inr (.inr e)))
        exact ⟨rfl, gwst_fin hw fw kk m1 q4 lb _ _ q1 k1 tn (fun _ => rfl) (lvk kk) (fun _ h => h) (.inl rfl) (fun h => by omega)⟩
  | @flip _ _ _ _ v hx =>
    have hc := gflips_ok (r := r) (n := n) hm hd he.head hr fg fwb (by omega) (by omega) (by omega) t0 t1 side rfl (by omega) v (by rw [e0]; exact hx) (by omega)
    rw [e0] at hc
    refine (gwstep3 hd 4 (fun w1 hq => ?_) (by decide) hc).mono ?_
    · obtain ⟨F2, -, q, -⟩ := hq; exact ⟨_, _, _, _, q⟩
    · rintro e w2 ⟨rfl, w1, ⟨F2, m1, q1, q3, q4⟩, k1, tn⟩
      have kk := q3.mono (T := fun k => F k ∨ k = lb ∨ k = wb) (fun k _ e => e.elim .inl (fun e => .inr (.inr e)))
      exact ⟨rfl, gwst_fin hw fw kk m1 q4 lb _ _ q1 k1 tn (fun _ => rfl) (lvk kk) (fun _ h => h) (.inl rfl) (fun h => by omega)⟩
  | @drain _ _ _ _ v hx =>
    have hc := gdrains_ok (r := r) (n := n) hm hd he.head hr fg fwb (by omega) (by omega) (by omega) t0 t1 side rfl (by omega) v (by rw [show ((B : Int) + 4 * (b : Int) + 1 + (((side) % 2 : Nat) : Int)).toNat = B + 4 * b + 1 + side % 2 by omega]; exact hx) (by omega)
    by_cases hz : v = 0
    · simp only [if_pos hz] at hc ⊢
      refine (gwstep4 hd 5 (fun w1 hq => ?_) (by decide) hc).mono ?_
      · obtain ⟨F2, -, q, -⟩ := hq; exact ⟨_, _, _, _, q⟩
      · rintro e w2 ⟨rfl, w1, ⟨F2, m1, q1, q3, q4⟩, k1, tn⟩
        have kk := q3.mono (T := fun k => F k ∨ k = lb ∨ k = wb) (fun k _ e => e.elim .inl (fun e => .inr (.inr e)))
        exact ⟨rfl, gwst_fin hw fw kk m1 q4 lb _ _ q1 k1 tn (fun _ => rfl) (lvk kk) (fun _ h => h) (.inl rfl) (fun h => by omega)⟩
    · simp only [if_neg hz] at hc ⊢
      refine (gwstep4 hd 4 (fun w1 hq => ?_) (by decide) hc).mono ?_
      · obtain ⟨F2, -, q, -⟩ := hq; exact ⟨_, _, _, _, q⟩
      · rintro e w2 ⟨rfl, w1, ⟨F2, m1, q1, q3, q4⟩, k1, tn⟩
        have kk := q3.mono (T := fun k => F k ∨ k = lb ∨ k = wb) (fun k _ e => e.elim .inl (fun e => .inr (.inr e)))
        exact ⟨rfl, gwst_fin hw fw kk m1 q4 lb _ _ q1 k1 tn (fun _ => rfl) (lvk kk) (fun _ h => h) (.inl rfl) (fun h => by omega)⟩
  | @unlock _ _ _ _ hx =>
    have le : ∀ b' : Nat, b' < n → lckErr t ((B : Int) + 4 * (b' : Int) + 3) 0 ws.length = 0 := fun b' hb' => by
      unfold lckErr
      rw [if_neg (by omega), if_neg (by omega)]
    have hc := gunlocks_ok (r := r) (n := n) hm hd he.head hr fg fwb (by omega) (by omega) (by omega) t0 t1 hcap (fun k hk => ⟨fw k (.inr (.inr hk)), (h3 k hk).1⟩) (fun b' hb' => ⟨by have := hl b' (List.mem_cons_of_mem _ hb'); omega, le b' (hl b' (List.mem_cons_of_mem _ hb'))⟩) (le b hbn) (by rw [e3]; exact hx) (by omega)
    rw [e3] at hc
    refine (gwstep5 hd (if left' = [] then 6 else 0) (fun w1 hq => ?_) (by split <;> decide) hc).mono ?_
    · obtain ⟨F2, lv', lp', -, q, -⟩ := hq; exact ⟨_, _, _, _, q⟩
    · rintro e w2 ⟨rfl, w1, ⟨F2, lv', lp', m1, q1, q2, q5, q3, q4, q6⟩, k1, tn⟩
      refine ⟨rfl, ?_⟩
      have kk := q3.mono (T := fun k => F k ∨ k = lb ∨ k = wb) (fun k _ e => e.elim .inl (fun e => .inr (.inr e)))
      cases left' with
      | nil => exact gwst_fin hw fw kk m1 q4 lb _ _ q1 k1 tn (fun h => absurd rfl h) q2 q5 (.inl rfl) (fun _ b' r' hl => by cases hl)
      | cons b' r' =>
        obtain ⟨lb', z1, z2, z3, z4⟩ := q6 b' r' rfl
        exact gwst_fin hw fw kk m1 q4 lb' _ _ q1 k1 tn (fun _ => z1) q2 q5 (.inr ⟨z2, z4, lt_of_block z3⟩) (fun _ b'' r'' hl => by
          simp only [List.cons.injEq] at hl
          obtain ⟨rfl, rfl⟩ := hl
          exact z3)
end
end Go.Proofs.Ytihgfklajhhikaa

/-! GateSteps: what calls make of the program's side. -/
set_option linter.unusedVariables false
set_option linter.unusedSimpArgs false
namespace Go.Lf
open Go.RowKit
def glk (sl : List GSl) (bo : List (GOp × GPB)) (k : Int) : Option Value := if k < 0 then none else (sl[k.toNat]?).bind fun x => if x.ph = 0 then none else (bo[x.ow]?).map fun o => .pointer (some ⟨o.2.b, 0, none⟩)
theorem glk_eq {sl sl' : List GSl} {bo bo' : List (GOp × GPB)} (hl : sl'.length = sl.length) (h : ∀ (s : Nat) (x : GSl), sl[s]? = some x → ∃ x', sl'[s]? = some x' ∧ (x'.ph = 0 ↔ x.ph = 0) ∧ (x.ph ≠ 0 → (bo'[x'.ow]?).map (fun o => o.2.b) = (bo[x.ow]?).map (fun o => o.2.b))) (k : Int) : glk sl' bo' k = glk sl bo k := by
  unfold glk
  split
  · rfl
  · cases hx : sl[k.toNat]? with
    | none => rw [List.getElem?_eq_none (by rw [List.getElem?_eq_none_iff] at hx; omega)]; rfl
    | some x =>
      obtain ⟨x', h1, h2, h3⟩ := h _ x hx
      rw [h1]
      simp only [Option.bind_some]
      by_cases e : x.ph = 0
      · rw [if_pos e, if_pos (h2.2 e)]
      · rw [if_neg e, if_neg (fun h => e (h2.1 h))]
        have h4 := h3 e
        have : ∀ o : Option (GOp × GPB), o.map (fun o => (Value.pointer (some ⟨o.2.b, 0, none⟩))) = (o.map (fun o => o.2.b)).map (fun b => Value.pointer (some ⟨b, 0, none⟩)) := fun o => by cases o <;> rfl
        rw [this, this, h4]
theorem glk_none {sl : List GSl} {bo : List (GOp × GPB)} {k : Int} (h : k < 0 ∨ (sl.length : Int) ≤ k) : glk sl bo k = none := by
  unfold glk
  by_cases e : k < 0
  · rw [if_pos e]
  · rw [if_neg e, List.getElem?_eq_none (by omega)]; rfl
theorem glk_at {sl : List GSl} {bo : List (GOp × GPB)} {s : Nat} {x : GSl} (h : sl[s]? = some x) : glk sl bo s = if x.ph = 0 then none else (bo[x.ow]?).map fun o => .pointer (some ⟨o.2.b, 0, none⟩) := by
  unfold glk
  rw [if_neg (by omega), show ((s : Int)).toNat = s by omega, h]
  rfl
theorem map_fst_set {α β : Type} (l : List (α × β)) (i : Nat) (o : α) (p : β) : (l.set i (o, p)).map Prod.fst = (l.map Prod.fst).set i o := List.map_set
theorem fst_at {α β : Type} {l : List (α × β)} {i : Nat} {o : α} (h : (l.map Prod.fst)[i]? = some o) : ∃ p, l[i]? = some (o, p) := by
  simp only [List.getElem?_map, Option.map_eq_some_iff] at h
  obtain ⟨⟨a, b⟩, h1, rfl⟩ := h
  exact ⟨b, h1⟩
end Go.Lf
namespace Go.Proofs.Ytihgfklajhhikaa
open Go.RowKit Go.Lf
section
variable {w w' : World} {g r mb B n K : Nat} {F F' A : Nat → Prop} {ml : List (Int × Value)} {S S' : GSt} {bo : List (GOp × GPB)}
theorem gwpc_eq : ∀ st, gwpc st = gpc st := fun st => by
  match st with
  | 0 | 1 | 2 | 3 | 4 | 5 | _ + 6 => rfl
theorem GPAt.glk (h : GPAt g r mb B n w A S bo F ml) (k : Int) : mlook ml k = glk S.sl bo k := h.ml.2 k
theorem GPAt.at (h : GPAt g r mb B n w A S bo F ml) {i : Nat} {o : GOp} (ho : S.ops[i]? = some o) : ∃ p, bo[i]? = some (o, p) ∧ gpat g mb B w (o, p) ∧ (∀ k, gphas (o, p) k → ¬ F k) := by
  rw [h.ops] at ho
  obtain ⟨p, hp⟩ := fst_at ho
  obtain ⟨h1, h2⟩ := h.ob.objs i _ hp
  exact ⟨p, hp, h1, h2⟩
/-- The engine's blocks, and those of an operation, are apart. -/
theorem GSys.nf {g r mb B n : Nat} {A F : Nat → Prop} {ws : List Int} {log : List Acc} (h : GSys g r mb B n w A ml ws log F) : ¬ F g ∧ ¬ F r := ⟨h.fg, h.fr⟩
/-- The system's parts. -/
theorem GPAt.sys (h : GPAt g r mb B n w A S bo F ml) : ∃ G, GSys g r mb B n w F ml S.ws S.log G := h.ob.sys
theorem GSys.mk' {G' : Nat → Prop} {ml' : List (Int × Value)} {ws' : List Int} {log' : List Acc} {G : Nat → Prop} (h : GSys g r mb B n w F ml ws' log' G) (hm : MemAt w' mb G' S'.ws S'.log) (he : GEngAt w' g r mb (B : Int) n ml') (hf : Foot w G G') :
    GSys g r mb B n w' (fun k => G' k ∨ k = g ∨ k = r) ml' S'.ws S'.log G' ∧ Foot w F (fun k => G' k ∨ k = g ∨ k = r) := by
  have lg := lt_of_block h.eng.head
  have lr := h.eng.map.lt
  refine ⟨⟨hm, he, fun e => (hf g e).elim h.fg (fun e => by omega), fun e => (hf r e).elim h.fr (fun e => by omega), fun _ => Iff.rfl⟩, fun k hk => ?_⟩
  rcases hk with e | e
  · exact (hf k e).elim (fun e => .inl ((h.foot k).2 (.inl e))) .inr
  · exact .inl ((h.foot k).2 (.inr e))
/-- Operation i has turned, with the system. -/
theorem GPAt.one (h : GPAt g r mb B n w A S bo F ml) {G G' : Nat → Prop} (hs : GSys g r mb B n w F ml S.ws S.log G) {i : Nat} {o o' : GOp} {p p' : GPB} (hp : bo[i]? = some (o, p)) (hm : MemAt w' mb G' S'.ws S'.log) (ho' : gpat g mb B w' (o', p')) (hk : Keep (fun k => G k ∨ gphas (o, p) k) w w') (hf : Foot w G G')
    (hn : ∀ k, gphas (o', p') k → ¬ G' k ∧ (gphas (o, p) k ∨ w.heap.size ≤ k)) (hops : S'.ops = S.ops.set i o') (hml : ∀ k, Go.Lf.glk S'.sl (bo.set i (o', p')) k = Go.Lf.glk S.sl bo k) :
    (GLies g r mb B n).To w A (S', bo.set i (o', p')) w' := by
  have hF : ∀ k, gphas (o, p) k → ¬ F k := (h.ob.objs i _ hp).2
  have hlt : ∀ k, gphas (o, p) k → k < w.heap.size := fun k hk => (GPO g mb B).lt (h.ob.objs i _ hp).1 hk
  have ng : ¬ (G g ∨ gphas (o, p) g) := fun e => e.elim hs.fg (fun e => hF g e ((hs.foot g).2 (.inr (.inl rfl))))
  have nr : ¬ (G r ∨ gphas (o, p) r) := fun e => e.elim hs.fr (fun e => hF r e ((hs.foot r).2 (.inr (.inr rfl))))
  obtain ⟨h1, h2⟩ := hs.mk' (S' := S') hm (hs.eng.keep hk ng nr) hf
  have nF : ∀ k, gphas (o', p') k → ¬ (G' k ∨ k = g ∨ k = r) := fun k hk' e => by
    rcases e with e | e
    · exact (hn k hk').1 e
    · rcases (hn k hk').2 with e' | e'
      · exact hF k e' ((hs.foot k).2 (.inr e))
      · have := lt_of_block hs.eng.head
        have := hs.eng.map.lt
        rcases e with e | e <;> omega
  obtain ⟨A', a1, a2, a3⟩ := h.ob.one (s' := (ml, S'.ws, S'.log)) (o' := (o', p')) hp ⟨G', h1⟩ ho' (hk.mono fun k _ e => e.elim (fun e => .inl ((hs.foot k).2 (.inl e))) .inr) h2 (fun k hk' => ⟨nF k hk', (hn k hk').2⟩)
  exact ⟨A', ⟨_, ml, a1, by rw [hops, h.ops, map_fst_set], h.ml.1, fun k => (h.glk k).trans (hml k).symm⟩, a2, a3⟩
theorem GPAt.same (h : GPAt g r mb B n w A S bo F ml) (hk : Keep Nil w w') : (GLies g r mb B n).To w A (S, bo) w' := by
  obtain ⟨A', h1, h2, h3⟩ := h.ob.same hk
  exact ⟨A', ⟨F, ml, h1, h.ops, h.ml⟩, h2, h3⟩
def GOp.pstep : GOp → FuncId
  | .en .. => 55
  | .wa .. => 57
def GOp.pnext : GOp → FuncId
  | .en .. => 94
  | .wa .. => 106
def GOp.pc : GOp → Int
  | .en _ _ _ c dn => if dn then 0 else match c with | none => 15 | some _ => 16
  | .wa _ st _ _ _ => gwpc st
theorem gpnext (h : GPAt g r mb B n w A S bo F ml) {i : Nat} {o : GOp} {p : GPB} (hp : bo[i]? = some (o, p)) :
    Calls Try.prog (GOp.pnext o) #[ptr p.a] w fun e w' => e = .returned (.int .u8 (GOp.pc o)) ∧ w = w' := by
  have ho := (h.ob.objs i _ hp).1
  cases o with
  | en t s b c dn =>
    have := genext_any ho.1 ho.2.1
    refine this.mono ?_
    rintro e w' ⟨rfl, rfl⟩
    refine ⟨?_, rfl⟩
    unfold gepc GOp.pc
    cases dn with
    | true => rfl
    | false =>
      cases c with
      | none => rfl
      | some c =>
        show Ending.returned (.int .u8 (if gcnt B b (some c) < 0 then 15 else 16)) = _
        rw [if_neg (by simp only [gcnt]; omega)]; rfl
  | wa t st side left f =>
    obtain ⟨⟨lp, h1, -⟩, -⟩ := (show GWtAt _ _ _ _ _ _ _ _ _ _ _ _ from ho)
    have := gwnext_any h1
    rw [← gwpc_eq] at this
    exact this
theorem gpstep (h : GPAt g r mb B n w A S bo F ml) (hok : S.ok B n K) (hB : B ≤ 20) (hn : n ≤ 9) (hK : K ≤ 10000) {i : Nat} {o : GOp} {p : GPB} (hp : bo[i]? = some (o, p)) {pc : Int} {d : Bool} (hst : Go.Lf.GStep B S i S' pc d) :
    Calls Try.prog (GOp.pstep o) #[ptr p.a] w fun e w' => e = .returned (.tuple #[.int .u8 pc, .bool d]) ∧ ∃ o' p', S'.ops = S.ops.set i o' ∧ p'.a = p.a ∧ o'.kind = o.kind ∧ (GLies g r mb B n).To w A (S', bo.set i (o', p')) w' := by
  have ll := hok.llog
  have lw := hok.lw
  have hoi : S.ops[i]? = some o := by rw [h.ops]; simp [hp]
  obtain ⟨hat, hF0⟩ := h.ob.objs i _ hp
  have hoo := hok.ops i o hoi
  obtain ⟨G, hs⟩ := h.sys
  have hF : ∀ k, gphas (o, p) k → ¬ F k := hF0
  have hG : ∀ k, gphas (o, p) k → ¬ G k := fun k hk e => hF k hk ((hs.foot k).2 (.inl e))
  have hlt : ∀ k, gphas (o, p) k → k < w.heap.size := fun k hk => (GPO g mb B).lt hat hk
  have getx : ∀ {s : Nat} {x : GSl}, S.sl[s]? = some x → s < S.sl.length := fun hx => (List.getElem?_eq_some_iff.1 hx).1
  cases hst with
  | @choose t s b x y h1 hy hx =>
    rw [hoi] at h1; obtain rfl := Option.some.inj h1
    obtain ⟨t0, t1, s1, b1, hc, -, hl⟩ := hoo
    obtain ⟨y', hy', y1, y2, -⟩ := hl rfl
    rw [hy] at hy'; obtain rfl := Option.some.inj hy'
    obtain ⟨e1, e2, e3⟩ := (show _ ∧ _ ∧ _ from hat)
    have hx2 : x < 2 := by
      obtain ⟨g', hg', hx'⟩ := hok.gate b b1
      rw [hx] at hx'
      have := Option.some.inj hx'
      omega
    refine (gestep_gate hs.mem e1 e2 (hG _ (.inl rfl)) (hG _ (.inr rfl)) t0 t1 (by omega) x (by rw [show ((B : Int) + 4 * (b : Int)).toNat = B + 4 * b by omega]; exact hx) (by omega)).mono ?_
    rintro e w' ⟨rfl, G', m1, q1, q2, q3⟩
    have nn : ∀ k, gphas (.en t s b none false, p) k → ¬ G' k := fun k hk e => (q3 k e).elim (hG k hk) (fun e => by have := hlt k hk; omega)
    refine ⟨rfl, .en t s b (some x) false, p, rfl, rfl, rfl, h.one hs hp m1 ⟨q2.at e1 (fun e => e.elim (hG _ (.inl rfl)) e3), ?_, e3⟩ (q2.mono fun k _ e => e.elim .inl (fun e => .inr (.inr e))) q3 (fun k hk => ⟨nn k hk, .inl hk⟩) rfl (fun k => glk_eq (by simp) (fun s' z hz => ?_) k)⟩
    · have : gcnt B b (some x) = (B : Int) + 4 * b + 1 + (x % 2 : Nat) := by simp only [gcnt]; omega
      show SecAt _ _ (gcnt B b (some x)) false
      rw [this]; exact q1
    · by_cases e : s' = s
      · subst e
        rw [hy] at hz; obtain rfl := Option.some.inj hz
        refine ⟨_, put_self hy _, by simp [y2, gph], fun _ => ?_⟩
        simp only
        rw [put_self hp, y1, hp]; rfl
      · refine ⟨z, by rw [List.getElem?_set, if_neg (fun h => e h.symm)]; exact hz, Iff.rfl, fun _ => ?_⟩
        by_cases e' : z.ow = i
        · rw [e', put_self hp, hp]; rfl
        · rw [List.getElem?_set, if_neg (fun h => e' h.symm)]
  | @count t s b c x y h1 hy hx =>
    rw [hoi] at h1; obtain rfl := Option.some.inj h1
    obtain ⟨t0, t1, s1, b1, hc, -, hl⟩ := hoo
    obtain ⟨y', hy', y1, y2, -⟩ := hl rfl
    rw [hy] at hy'; obtain rfl := Option.some.inj hy'
    obtain ⟨e1, e2, e3⟩ := (show _ ∧ _ ∧ _ from hat)
    obtain ⟨x0, x1⟩ := hok.wok x (List.mem_of_getElem? hx)
    refine (gestep_count hs.mem e1 (B + 4 * b + 1 + c) e2 (hG _ (.inl rfl)) (hG _ (.inr rfl)) t0 t1 x hx x0 x1 (by omega)).mono ?_
    rintro e w' ⟨rfl, G', m1, q1, q2, q3⟩
    have nn : ∀ k, gphas (.en t s b (some c) false, p) k → ¬ G' k := fun k hk e => (q3 k e).elim (hG k hk) (fun e => by have := hlt k hk; omega)
    rw [show ((B + 4 * b + 1 + c : Nat) : Int) = (B : Int) + 4 * b + 1 + c by omega] at m1
    refine ⟨rfl, .en t s b (some c) true, p, rfl, rfl, rfl, h.one hs hp m1 ⟨q2.at e1 (fun e => e.elim (hG _ (.inl rfl)) e3), q1, e3⟩ (q2.mono fun k _ e => e.elim .inl (fun e => .inr (.inr e))) q3 (fun k hk => ⟨nn k hk, .inl hk⟩) rfl (fun k => glk_eq (by simp) (fun s' z hz => ?_) k)⟩
    by_cases e : s' = s
    · subst e
      rw [hy] at hz; obtain rfl := Option.some.inj hz
      refine ⟨_, put_self hy _, by simp [y2, gph], fun _ => ?_⟩
      simp only
      rw [put_self hp, y1, hp]; rfl
    · refine ⟨z, by rw [List.getElem?_set, if_neg (fun h => e h.symm)]; exact hz, Iff.rfl, fun _ => ?_⟩
      by_cases e' : z.ow = i
      · rw [e', put_self hp, hp]; rfl
      · rw [List.getElem?_set, if_neg (fun h => e' h.symm)]
  | @idle t s b c h1 =>
    rw [hoi] at h1; obtain rfl := Option.some.inj h1
    obtain ⟨e1, e2, e3⟩ := (show _ ∧ _ ∧ _ from hat)
    refine (gestep_idle e1 e2).mono ?_
    rintro e w' ⟨rfl, rfl⟩
    exact ⟨rfl, _, p, (set_eq hoi).symm, rfl, rfl, by rw [set_eq hp]; exact h.same (Keep.refl _ _)⟩
  | @wait t st side f st' side' f' left left' ws' a h1 hw =>
    rw [hoi] at h1; obtain rfl := Option.some.inj h1
    obtain ⟨t0, t1, h6, hsd, hl, hle, hf⟩ := hoo
    have hat' : GWtAt w p.a p.b g mb t B p.v f st side left := hat
    have := gwstep_any hs.mem hs.eng hs.fg hat' (fun k hk => hG k hk) t0 t1 (by omega) (by omega) hsd hl (by omega) (by omega) (by omega) hw
    rw [← gwpc_eq] at this
    refine this.mono ?_
    rintro e w' ⟨rfl, G', lb', lv', m1, q1, q2, q3, q4, q5, q6⟩
    refine ⟨rfl, .wa t st' side' left' f', ⟨p.a, lb', lv'⟩, rfl, rfl, rfl, h.one hs hp m1 q1 (q2.mono fun k _ e => e.elim .inl (fun e => .inr (e.elim .inl (fun e => .inr (.inl e))))) q3 (fun k hk => ⟨q6 k hk, ?_⟩) rfl (fun k => glk_eq rfl (fun s' z hz => ⟨z, hz, Iff.rfl, fun hne => ?_⟩) k)⟩
    · rcases hk with e | e | e
      · exact .inl (.inl e)
      · rcases q5 with e' | e'
        · exact .inl (.inr (.inl (e.trans e')))
        · exact .inr (by show w.heap.size ≤ k; rw [e]; exact e')
      · exact .inl (.inr (.inr (q4 k e)))
    · obtain ⟨-, -, -, z4⟩ := hok.sls s' z hz
      obtain ⟨-, t', c, dn, c2, -⟩ := z4 hne
      rw [List.getElem?_set, if_neg (fun e => ?_)]
      rw [← e, hoi] at c2; cases c2
  | @over t side f left h1 =>
    rw [hoi] at h1; obtain rfl := Option.some.inj h1
    obtain ⟨⟨lp, q, -⟩, -⟩ := (show GWtAt _ _ _ _ _ _ _ _ _ _ _ _ from hat)
    refine (gwstep_over q (by omega)).mono ?_
    rintro e w' ⟨rfl, rfl⟩
    exact ⟨rfl, _, p, (set_eq hoi).symm, rfl, rfl, by rw [set_eq hp]; exact h.same (Keep.refl _ _)⟩

theorem map_a_set {bo : List (GOp × GPB)} {i : Nat} {o o' : GOp} {p p' : GPB} (hp : bo[i]? = some (o, p)) (ha : p'.a = p.a) : (bo.set i (o', p')).map (fun o => o.2.a) = bo.map (fun o => o.2.a) := by
  rw [List.map_set]
  exact set_eq (by simp [hp, ha])
theorem gpstep_any (h : GPAt g r mb B n w A S bo F ml) (hok : S.ok B n K) (hB : B ≤ 20) (hn : n ≤ 9) (hK : K ≤ 10000) {i : Nat} {o : GOp} {p : GPB} (hp : bo[i]? = some (o, p)) {pc : Int} {d : Bool} (hst : Go.Lf.GStep B S i S' pc d) :
    Calls Try.prog (GOp.pstep o) #[ptr p.a] w fun e w' => ∃ bo', (e = .returned (.tuple #[.int .u8 pc, .bool d]) ∧ bo'.map (fun o => o.2.a) = bo.map (fun o => o.2.a)) ∧ (GLies g r mb B n).To w A (S', bo') w' := by
  refine (gpstep h hok hB hn hK hp hst).mono ?_
  rintro e w' ⟨rfl, o', p', -, h2, -, h4⟩
  exact ⟨_, ⟨rfl, map_a_set hp h2⟩, h4⟩
/-! Beginnings and exits. -/
/-- A new operation, with the system turned. -/
theorem GPAt.new (h : GPAt g r mb B n w A S bo F ml) {G : Nat → Prop} (hs : GSys g r mb B n w F ml S.ws S.log G) {ml' : List (Int × Value)} {o : GOp} {p : GPB} (he : GEngAt w' g r mb (B : Int) n ml') (ho : gpat g mb B w' (o, p)) (hk : Keep (fun k => k = r) w w') (hn : ∀ k, gphas (o, p) k → w.heap.size ≤ k) (hops : S'.ops = S.ops ++ [o]) (hws : S'.ws = S.ws) (hlog : S'.log = S.log) (hml : GMl S' (bo ++ [(o, p)]) ml') :
    (GLies g r mb B n).To w A (S', bo ++ [(o, p)]) w' := by
  have hm : MemAt w' mb G S'.ws S'.log := by rw [hws, hlog]; exact hs.mem.keep hk (fun k hk e => hs.fr (e ▸ hk))
  obtain ⟨h1, h2⟩ := hs.mk' (S' := S') hm he (fun k hk => .inl hk)
  have hlt := (GPS g r mb B n).lt h.ob.sys
  have nF : ∀ k, gphas (o, p) k → ¬ (G k ∨ k = g ∨ k = r) := fun k hk' e => by
    have := hlt k ((hs.foot k).2 e)
    have := hn k hk'
    omega
  obtain ⟨A', a1, a2, a3⟩ := h.ob.new (s' := (ml', S'.ws, S'.log)) (o := (o, p)) ⟨G, h1⟩ ho (hk.mono fun k _ e => (hs.foot k).2 (.inr (.inr e))) h2 (fun k hk' => ⟨nF k hk', hn k hk'⟩)
  exact ⟨A', ⟨_, ml', a1, by rw [hops, h.ops]; simp, hml⟩, a2, a3⟩
theorem gpenter_ok (h : GPAt g r mb B n w A S bo F ml) (hok : S.ok B n K) (hB : B ≤ 20) (hn0 : 1 ≤ n) (hn : n ≤ 9) {t : Int} {s v : Nat} {x : GSl} (t0 : 0 ≤ t) (t1 : t < 64) (hv : v < 64) (hx : S.sl[s]? = some x) (hp : x.ph = 0) :
    Calls Try.prog 54 #[ptr g, .int .i64 t, .int .i64 s, .int .i64 v] w fun e w' => ∃ p, e = .returned (.tuple #[ptr p.a, .int .i64 0]) ∧ (GLies g r mb B n).To w A (S.begun t s (v % n) x, bo ++ [(.en t s (v % n) none false, p)]) w' := by
  obtain ⟨G, hs⟩ := h.sys
  have hs64 : s < 64 := by have := (List.getElem?_eq_some_iff.1 hx).1; have := hok.ls; omega
  have hno : mlook ml s = none := by rw [h.glk, glk_at hx, if_pos hp]
  have lb : S.ops.length = bo.length := by rw [h.ops]; simp
  have her : genErr t s v (mlook ml s).isSome = 0 := by
    rw [hno]
    have : gsErr t s = 0 := by unfold gsErr; rw [if_neg (by omega), if_neg (by omega)]
    unfold genErr
    rw [if_neg (by rw [this]; simp), if_neg (by omega)]; rfl
  refine (genter_ok hs.eng t s v her (by omega) (by omega) hn0 (by omega)).mono ?_
  rintro e w' ⟨eb, sb, rfl, q1, q2, q3, q4, q5, q6⟩
  refine ⟨⟨eb, sb, .nilFunc⟩, rfl, h.new hs q1 ⟨q2, q3, gtype_ne q2 q3 (by decide)⟩ q4 (fun k hk => hk.elim (fun e => by rw [e]; exact q5) (fun e => by rw [e]; exact q6)) rfl rfl rfl ⟨mkeys_put_nodup h.ml.1 _ _, fun k => ?_⟩⟩
  rw [mlook_put, h.glk]
  show _ = Go.Lf.glk (S.sl.set s ⟨1, v % n, x.sd, S.ops.length⟩) (bo ++ [(.en t s (v % n) none false, ⟨eb, sb, .nilFunc⟩)]) k
  by_cases e : k = s
  · subst e
    rw [if_pos rfl, glk_at (put_self hx _), if_neg (by simp), lb, List.getElem?_append_right (Nat.le_refl _), Nat.sub_self]; rfl
  · rw [if_neg e]
    unfold Go.Lf.glk
    by_cases e0 : k < 0
    · rw [if_pos e0, if_pos e0]
    · rw [if_neg e0, if_neg e0, List.getElem?_set, if_neg (by omega)]
      cases hz : S.sl[k.toNat]? with
      | none => rfl
      | some z =>
        simp only [Option.bind_some]
        by_cases e1 : z.ph = 0
        · rw [if_pos e1, if_pos e1]
        · rw [if_neg e1, if_neg e1]
          obtain ⟨-, -, -, z4⟩ := hok.sls _ z hz
          obtain ⟨-, t', c, dn, c2, -⟩ := z4 e1
          rw [List.getElem?_append_left (by have := (List.getElem?_eq_some_iff.1 c2).1; omega)]
theorem gpexit_ok (h : GPAt g r mb B n w A S bo F ml) (hok : S.ok B n K) (hB : B ≤ 20) (hn : n ≤ 9) (hK : K ≤ 10000) {t : Int} {s : Nat} {x : GSl} {y : Int} (t0 : 0 ≤ t) (t1 : t < 64) (hx : S.sl[s]? = some x) (hp : x.ph = 3) (hy : S.ws[B + 4 * x.b + 1 + x.sd]? = some y) :
    Calls Try.prog 58 #[ptr g, .int .i64 t, .int .i64 s] w fun e w' => e = .returned (.tuple #[.int .u8 16, .int .i64 0]) ∧ (GLies g r mb B n).To w A (S.left B t s x y, bo) w' := by
  obtain ⟨G, hs⟩ := h.sys
  have hs64 : s < 64 := by have := (List.getElem?_eq_some_iff.1 hx).1; have := hok.ls; omega
  have ll := hok.llog
  obtain ⟨z1, z2, z3, z4⟩ := hok.sls s x hx
  obtain ⟨b1, t', c, dn, c2, c3, c4⟩ := z4 (by omega)
  have hc := c4 (by omega)
  subst hc
  have hdn : dn = true := by
    cases dn with
    | true => rfl
    | false => rw [hp] at c3; simp [gph] at c3
  subst hdn
  obtain ⟨p, hbo, hat, hF⟩ := h.at c2
  obtain ⟨e1, e2, e3⟩ := (show _ ∧ _ ∧ _ from hat)
  have hlk : mlook ml s = some (ptr p.b) := by rw [h.glk, glk_at hx, if_neg (by omega), hbo]; rfl
  obtain ⟨y0, y1⟩ := hok.wok y (List.mem_of_getElem? hy)
  refine (gexit_ok (B + 4 * x.b + 1 + x.sd) y hs.mem hs.eng hs.fg hs.fr t s (by unfold gsErr; rw [if_neg (by omega), if_neg (by omega)]) hlk e2 (fun e => hF p.b (.inr rfl) ((hs.foot _).2 (.inl e))) hy y0 y1 (by omega)).mono ?_
  rintro e w' ⟨rfl, G', m1, q1, q2, q3⟩
  rw [show ((B + 4 * x.b + 1 + x.sd : Nat) : Int) = (B : Int) + 4 * x.b + 1 + x.sd by omega] at m1
  obtain ⟨h1, h2⟩ := hs.mk' (S' := S.left B t s x y) m1 q1 q3
  obtain ⟨A', a1, a2, a3⟩ := h.ob.none (s' := (mdel ml s, (S.left B t s x y).ws, (S.left B t s x y).log)) ⟨G', h1⟩ (q2.mono fun k _ e => (hs.foot k).2 (e.elim .inl (fun e => .inr (.inr e)))) h2
  refine ⟨rfl, A', ⟨_, _, a1, h.ops, mkeys_del_nodup h.ml.1 _, fun k => ?_⟩, a2, a3⟩
  rw [mlook_del h.ml.1, h.glk]
  show _ = Go.Lf.glk (S.sl.set s ⟨0, x.b, x.sd, x.ow⟩) bo k
  by_cases e : k = s
  · subst e
    rw [if_pos rfl, glk_at (put_self hx _), if_pos rfl]
  · rw [if_neg e]
    unfold Go.Lf.glk
    by_cases e0 : k < 0
    · rw [if_pos e0, if_pos e0]
    · rw [if_neg e0, if_neg e0, List.getElem?_set, if_neg (by omega)]
theorem lvAt_lt {lv : Value} {b : Nat} {rest : List Nat} (h : LvAt w lv (b :: rest)) {k : Nat} (hk : lv.ownBlock = some k) : k < w.heap.size := by
  obtain ⟨a, c, rfl, hr, hc⟩ := h
  obtain ⟨q, off, c', hv, hcell⟩ := hr.cell (by simp)
  simp only [Value.slice.injEq] at hv
  obtain ⟨rfl, -, rfl⟩ := hv
  have : q = k := by simpa [Value.ownBlock] using hk
  subst this
  exact World.block_lt_of_cell? w _ (hcell 0 _ rfl)
theorem gpwait_ok (h : GPAt g r mb B n w A S bo F ml) (hok : S.ok B n K) (hB : B ≤ 20) (hn0 : 1 ≤ n) (hn : n ≤ 9) {t : Int} {set : Nat} (t0 : 0 ≤ t) (t1 : t < 64) (s0 : set ≠ 0) (s1 : set < 18446744073709551616) :
    Calls Try.prog 56 #[ptr g, .int .i64 t, .int .u64 set] w fun e w' => ∃ p, e = .returned (.tuple #[ptr p.a, .int .i64 0]) ∧ (GLies g r mb B n).To w A (S.waits t (bkts set n), bo ++ [(.wa t 0 0 (bkts set n) 0, p)]) w' := by
  obtain ⟨G, hs⟩ := h.sys
  have lw := hok.lw
  have hne : bkts set n ≠ [] := by
    obtain ⟨v, hv⟩ : ∃ v, set.testBit v = true := by
      refine Classical.byContradiction fun h => s0 ?_
      apply Nat.eq_of_testBit_eq
      intro i
      rw [Nat.zero_testBit]
      cases hb : set.testBit i with
      | false => rfl
      | true => exact absurd ⟨i, hb⟩ h
    have hv64 : v < 64 := by
      refine Classical.byContradiction fun h => ?_
      rw [Nat.testBit_lt_two_pow (Nat.lt_of_lt_of_le s1 (Nat.pow_le_pow_right (n := 2) (by decide) (show 64 ≤ v by omega)))] at hv
      cases hv
    intro e
    have : v % n ∈ bkts set n := mem_bkts.2 ⟨Nat.mod_lt _ (by omega), inB_iff.2 ⟨v, hv64, rfl, hv⟩⟩
    rw [e] at this
    cases this
  refine (gwait_ok hs.mem hs.eng t set t0 t1 s0 s1 (by omega) (by omega) hn0 (by omega) (fun b hb => ?_)).mono ?_
  · have := (mem_bkts.1 hb).1
    unfold lckErr
    rw [if_neg (by omega), if_neg (by omega)]
  · rintro e w' ⟨wb, lv, lp, rfl, q1, q2, q3, q4, q5, q6⟩
    obtain ⟨b0, r0, hbr⟩ := List.exists_cons_of_ne_nil hne
    obtain ⟨lb, rfl, q7, q8, q9, q10⟩ := q6 b0 r0 hbr
    rw [if_neg hne] at q1
    refine ⟨⟨wb, lb, lv⟩, rfl, h.new hs (hs.eng.keep q3 (fun e => e) (fun e => e)) (show gpat g mb B w' (.wa t 0 0 (bkts set n) 0, ⟨wb, lb, lv⟩) from ⟨⟨ptr lb, q1, fun _ => rfl⟩, q2, fun k hk => ⟨(q5 k hk).2, q9 k hk, lvAt_lt (hbr ▸ q2) hk⟩, q8, lt_of_block q10, fun _ b r hl => ?_⟩) (q3.mono fun _ _ e => e.elim) (fun k hk => ?_) rfl rfl rfl ⟨h.ml.1, fun k => (h.glk k).trans ?_⟩⟩
    · rw [hbr] at hl
      simp only [List.cons.injEq] at hl
      obtain ⟨rfl, rfl⟩ := hl
      exact q10
    · rcases hk with e | e | e
      · rw [e]; exact q4
      · rw [e]; exact q7
      · exact (q5 k e).1
    · refine (glk_eq (sl' := S.sl) (bo' := bo ++ [(.wa t 0 0 (bkts set n) 0, ⟨wb, lb, lv⟩)]) rfl (fun s' z hz => ⟨z, hz, Iff.rfl, fun hne => ?_⟩) k).symm
      obtain ⟨-, -, -, z4⟩ := hok.sls s' z hz
      obtain ⟨-, t', c, dn, c2, -⟩ := z4 hne
      have lb : S.ops.length = bo.length := by rw [h.ops]; simp
      rw [List.getElem?_append_left (by have := (List.getElem?_eq_some_iff.1 c2).1; omega)]
/-- Whether slot k is entered. -/
def gIn (S : GSt) (k : Nat) : Bool := match S.sl[k]? with
  | some x => x.ph == 3
  | none => false
theorem gpopen (h : GPAt g r mb B n w A S bo F ml) (hok : S.ok B n K) : Calls Try.prog 22 #[ptr g] w (NumsTo w (openTo (gIn S) 64)) := by
  obtain ⟨G, hs⟩ := h.sys
  refine gopen_ok hs.eng _ (fun k hk => ?_)
  obtain ⟨x, hx⟩ : ∃ x, S.sl[k]? = some x := ⟨_, List.getElem?_eq_getElem (by have := hok.ls; omega)⟩
  obtain ⟨z1, z2, z3, z4⟩ := hok.sls k x hx
  have hg : gIn S k = (x.ph == 3) := by unfold gIn; rw [hx]
  rw [hg, h.glk, glk_at hx]
  by_cases e : x.ph = 0
  · rw [if_pos e]; exact .inl ⟨rfl, by simp [e]⟩
  · rw [if_neg e]
    obtain ⟨b1, t', c, dn, c2, c3, c4⟩ := z4 e
    obtain ⟨p, hbo, hat, hF⟩ := h.at c2
    obtain ⟨e1, e2, e3⟩ := (show _ ∧ _ ∧ _ from hat)
    refine .inr ⟨p.b, gcnt B x.b c, by rw [hbo]; rfl, ?_⟩
    have : dn = (x.ph == 3) := by
      rw [← c3]
      cases dn with
      | true => rfl
      | false => cases c <;> rfl
    rw [← this]; exact e2
/-- Errors. -/
theorem gpenter_err (h : GPAt g r mb B n w A S bo F ml) (t s v : Int) (he : genErr t s v (glk S.sl bo s).isSome ≠ 0) : Calls Try.prog 54 #[ptr g, .int .i64 t, .int .i64 s, .int .i64 v] w fun e w' => e = .returned (.tuple #[.pointer none, .int .i64 (genErr t s v (glk S.sl bo s).isSome)]) ∧ w = w' := by
  obtain ⟨G, hs⟩ := h.sys
  rw [← h.glk] at he ⊢
  exact genter_err hs.eng t s v he
theorem gpexit_err (h : GPAt g r mb B n w A S bo F ml) (t s : Int) (he : gsErr t s ≠ 0) : Calls Try.prog 58 #[ptr g, .int .i64 t, .int .i64 s] w fun e w' => e = .returned (.tuple #[.int .u8 0, .int .i64 (gsErr t s)]) ∧ w = w' := by
  obtain ⟨G, hs⟩ := h.sys
  exact gexit_err hs.eng t s he
theorem gpexit_state (h : GPAt g r mb B n w A S bo F ml) (hok : S.ok B n K) (t : Int) (s : Nat) {x : GSl} (he : gsErr t s = 0) (hx : S.sl[s]? = some x) (hp : x.ph ≠ 3) : Calls Try.prog 58 #[ptr g, .int .i64 t, .int .i64 s] w fun e w' => e = .returned (.tuple #[.int .u8 0, .int .i64 8]) ∧ w = w' := by
  obtain ⟨G, hs⟩ := h.sys
  obtain ⟨z1, z2, z3, z4⟩ := hok.sls s x hx
  by_cases e : x.ph = 0
  · exact gexit_none hs.eng t s he (by rw [h.glk, glk_at hx, if_pos e])
  · obtain ⟨b1, t', c, dn, c2, c3, c4⟩ := z4 e
    obtain ⟨p, hbo, hat, hF⟩ := h.at c2
    obtain ⟨e1, e2, e3⟩ := (show _ ∧ _ ∧ _ from hat)
    have hdn : dn = false := by
      cases dn with
      | false => rfl
      | true => exact absurd c3.symm hp
    subst hdn
    exact gexit_begun hs.eng t s he (by rw [h.glk, glk_at hx, if_neg e, hbo]; rfl) e2
end
end Go.Proofs.Ytihgfklajhhikaa
