/- A run of six threads: where it lies. -/
import Derived.Test.YtjghenomeindcaaPoolO
import Derived.Test.YtjghenomeindcaaORow
set_option linter.unusedVariables false
set_option linter.unusedSimpArgs false
namespace Go.Lf
open Go.RowKit
def rnCells (L pb : Nat) (f : Nat → Nat → Value) : List Value := .pointer (some ⟨L, 0, none⟩) :: .pointer (some ⟨pb, 0, none⟩) :: (List.range 48).map fun n => f (n / 6) (n % 6)
def fset (f : Nat → Nat → Value) (j i : Nat) (v : Value) : Nat → Nat → Value := fun j' i' => if j' = j ∧ i' = i then v else f j' i'
theorem fset_me {f : Nat → Nat → Value} {j i : Nat} {v : Value} : fset f j i v j i = v := if_pos ⟨rfl, rfl⟩
theorem fset_row {f : Nat → Nat → Value} {j i j' i' : Nat} {v : Value} (h : j' ≠ j) : fset f j i v j' i' = f j' i' := if_neg fun e => h e.1
theorem fset_col {f : Nat → Nat → Value} {j i j' i' : Nat} {v : Value} (h : i' ≠ i) : fset f j i v j' i' = f j' i' := if_neg fun e => h e.2
theorem rnCells_at {L pb : Nat} {f : Nat → Nat → Value} {j i : Nat} (hj : j < 8) (hi : i < 6) : (rnCells L pb f)[2 + 6 * j + i]? = some (f j i) := by
  unfold rnCells
  rw [show 2 + 6 * j + i = (6 * j + i) + 2 by omega, List.getElem?_cons_succ, List.getElem?_cons_succ, List.getElem?_map, List.getElem?_range (by omega)]
  simp only [Option.map_some]
  rw [show (6 * j + i) / 6 = j by omega, show (6 * j + i) % 6 = i by omega]
theorem rnCells_set {L pb : Nat} {f : Nat → Nat → Value} {j i : Nat} {v : Value} (hj : j < 8) (hi : i < 6) : (rnCells L pb f).set (2 + 6 * j + i) v = rnCells L pb (fset f j i v) := by
  apply List.ext_getElem?
  intro n
  rw [List.getElem?_set]
  by_cases hn : n < 50
  · by_cases h2 : n < 2
    · have : n = 0 ∨ n = 1 := by omega
      rcases this with rfl | rfl
      · rw [if_neg (by omega)]; rfl
      · rw [if_neg (by omega)]; rfl
    · obtain ⟨j', i', hj', hi', rfl⟩ : ∃ j' i', j' < 8 ∧ i' < 6 ∧ n = 2 + 6 * j' + i' := ⟨(n - 2) / 6, (n - 2) % 6, by omega, by omega, by omega⟩
      rw [rnCells_at hj' hi', rnCells_at hj' hi']
      by_cases e : 2 + 6 * j + i = 2 + 6 * j' + i'
      · obtain rfl : j' = j := by omega
        obtain rfl : i' = i := by omega
        rw [if_pos rfl, if_pos (by simp [rnCells]; omega), fset_me]
      · rw [if_neg e, fset, if_neg (by omega)]
  · rw [if_neg (by omega), List.getElem?_eq_none (by simp [rnCells]; omega), List.getElem?_eq_none (by simp [rnCells]; omega)]
/-- Blocks that bear a mark keep it. -/
def Ext (own own' : Nat → Option Nat) : Prop := ∀ k t, own k = some t → own' k = some t
theorem Ext.refl (own : Nat → Option Nat) : Ext own own := fun _ _ h => h
theorem Ext.trans {a b c : Nat → Option Nat} (h : Ext a b) (k : Ext b c) : Ext a c := fun i t e => k i t (h i t e)
/-- The blocks of a set get a mark. -/
noncomputable def omark (own : Nat → Option Nat) (S : Nat → Prop) (t : Nat) : Nat → Option Nat := fun k => open Classical in if S k then some t else own k
theorem omark_in {own : Nat → Option Nat} {S : Nat → Prop} {t k : Nat} (h : S k) : omark own S t k = some t := by unfold omark; rw [if_pos h]
theorem omark_out {own : Nat → Option Nat} {S : Nat → Prop} {t k : Nat} (h : ¬ S k) : omark own S t k = own k := by unfold omark; rw [if_neg h]
theorem omark_ext {own : Nat → Option Nat} {S : Nat → Prop} {t : Nat} (h : ∀ k, S k → own k = some t ∨ own k = none) : Ext own (omark own S t) := fun k u e => by
  by_cases hS : S k
  · rw [omark_in hS]
    rcases h k hS with h | h
    · rw [e] at h; exact h.symm
    · rw [e] at h; cases h
  · rw [omark_out hS]; exact e
theorem omark_ne {own : Nat → Option Nat} {S : Nat → Prop} {t k : Nat} (h : omark own S t k ≠ none) : S k ∨ own k ≠ none := by
  by_cases hS : S k
  · exact .inl hS
  · rw [omark_out hS] at h; exact .inr h
end Go.Lf
namespace Go.Proofs.Ytjghenomeindcaa
open Go.RowKit Go.Lf
/-- Where thread t's operation lies. -/
def OpAt (w : World) (own : Nat → Option Nat) (c : Cfg) (pb t : Nat) (o : Option PO) (f0 f1 : Value) : Prop :=
  match o with
  | none => f0 = .pointer none ∧ f1 = .pointer none
  | some o => ∃ tb m, own tb = some (2 + t) ∧ own m = some (8 + t) ∧ ((f0 = .pointer (some ⟨tb, 0, none⟩) ∧ f1 = .pointer none ∧ TkAt w tb m pb c o) ∨ (f0 = .pointer none ∧ f1 = .pointer (some ⟨tb, 0, none⟩) ∧ GvAt w tb m pb c o))
/-- A row of the run. -/
def RwAt (w : World) (own : Nat → Option Nat) (tag : Nat) (v : Value) (zs : List Int) : Prop := ORow w 3 v zs ∧ ∀ k, v.ownBlock = some k → own k = some tag
/-- The pools of the run. -/
def PlAt (w : World) (own : Nat → Option Nat) (c : Cfg) (pb L : Nat) (s : PSt) : Prop := ∃ A, (PoolL c pb L).lie w A s ∧ ∀ k, A k → own k = some 0
/-- Where a run began: a world, and the older blocks that it may write. -/
structure Frm where
  w : World
  M : Nat → Prop
structure RunAt (w0 : Frm) (w : World) (c : Cfg) (R : PRun) (rb pb L : Nat) (own : Nat → Option Nat) (f : Nat → Nat → Value) : Prop where
  head : w.heap[rb]? = some (.cells (rnCells L pb f).toArray 74 (0, 0))
  orb : own rb = some 1
  kp : Keep w0.M w0.w w
  olt : ∀ k, own k ≠ none → (w0.w.heap.size ≤ k ∨ w0.M k) ∧ k < w.heap.size
  pl : PlAt w own c pb L R.s
  op : ∀ t, t < 6 → OpAt w own c pb t (R.ops t) (f 0 t) (f 1 t)
  of : ∀ t, t < 6 → f 2 t = .int .i64 (R.of t)
  mine : ∀ t, t < 6 → RwAt w own (14 + t) (f 3 t) (R.mine t)
  stk : ∀ h, h < 6 → RwAt w own (20 + h) (f 4 h) (R.L h).reverse
  sw : ∀ h, h < 6 → f 5 h = .int .i64 (R.sw h)
  seen : ∀ t, t < 6 → f 6 t = .int .i64 (R.seen t)
  steps : ∀ t, t < 6 → f 7 t = .int .i64 (R.steps t)
section
variable {w0 : Frm} {w w' : World} {c : Cfg} {R : PRun} {rb pb L t : Nat} {own own' : Nat → Option Nat} {f : Nat → Nat → Value} {S : Nat → Prop} {o : Option PO} {f0 f1 v : Value} {zs : List Int} {tag : Nat} {s : PSt}
theorem OpAt.keep (h : OpAt w own c pb t o f0 f1) (hk : Keep S w w') (he : Ext own own') (h1 : ∀ k, S k → own k ≠ some (2 + t) ∧ own k ≠ some (8 + t)) : OpAt w' own' c pb t o f0 f1 := by
  cases o with
  | none => exact h
  | some o =>
    obtain ⟨tb, m, a1, a2, a3⟩ := h
    refine ⟨tb, m, he _ _ a1, he _ _ a2, ?_⟩
    have n1 : ¬ S tb := fun e => (h1 tb e).1 a1
    have n2 : ¬ S m := fun e => (h1 m e).2 a2
    rcases a3 with ⟨b1, b2, b3⟩ | ⟨b1, b2, b3⟩
    · exact .inl ⟨b1, b2, b3.keep hk n1 n2⟩
    · exact .inr ⟨b1, b2, b3.keep hk n1 n2⟩
theorem RwAt.keep (h : RwAt w own tag v zs) (hk : Keep S w w') (he : Ext own own') (h1 : ∀ k, S k → own k ≠ some tag) : RwAt w' own' tag v zs :=
  ⟨h.1.keep hk (fun k e e2 => h1 k e2 (h.2 k e)), fun k e => he _ _ (h.2 k e)⟩
theorem PlAt.keep (h : PlAt w own c pb L s) (hk : Keep S w w') (he : Ext own own') (h1 : ∀ k, S k → own k ≠ some 0) : PlAt w' own' c pb L s := by
  obtain ⟨A, a1, a2⟩ := h
  exact ⟨A, (PoolL c pb L).keep a1 hk (fun k e e2 => h1 k e2 (a2 k e)), fun k e => he _ _ (a2 k e)⟩
theorem RunAt.quiet (h : RunAt w0 w c R rb pb L own f) (hk : Keep Nil w w') : RunAt w0 w' c R rb pb L own f :=
  ⟨hk.at h.head (fun h => h), h.orb, h.kp.trans hk (fun _ _ h => h.elim), fun k e => ⟨(h.olt k e).1, Nat.lt_of_lt_of_le (h.olt k e).2 hk.size⟩, h.pl.keep hk (Ext.refl _) (fun _ h => h.elim), fun t ht => (h.op t ht).keep hk (Ext.refl _) (fun _ h => h.elim), h.of, fun t ht => (h.mine t ht).keep hk (Ext.refl _) (fun _ h => h.elim), fun t ht => (h.stk t ht).keep hk (Ext.refl _) (fun _ h => h.elim), h.sw, h.seen, h.steps⟩
theorem RunAt.cell (h : RunAt w0 w c R rb pb L own f) {j i : Nat} (hj : j < 8) (hi : i < 6) : w.cell? ⟨rb, 2 + 6 * j + i, none⟩ = some (f j i) := by
  rw [cell_of h.head]
  simpa using rnCells_at hj hi
theorem RunAt.cell0 (h : RunAt w0 w c R rb pb L own f) : w.cell? ⟨rb, 0, none⟩ = some (.pointer (some ⟨L, 0, none⟩)) ∧ w.cell? ⟨rb, 1, none⟩ = some (.pointer (some ⟨pb, 0, none⟩)) := by
  constructor <;> (rw [cell_of h.head]; rfl)
theorem RunAt.free (h : RunAt w0 w c R rb pb L own f) (i : Nat) : w.frozen? ⟨rb, i, none⟩ = false := free_of h.head i
/-- A cell of the run is stored. -/
theorem RunAt.put (h : RunAt w0 w c R rb pb L own f) {j i : Nat} (hj : j < 8) (hi : i < 6) (v : Value) (R' : PRun) (hs : R'.s = R.s)
    (op : ∀ t, t < 6 → OpAt w own c pb t (R'.ops t) (fset f j i v 0 t) (fset f j i v 1 t)) (of : ∀ t, t < 6 → fset f j i v 2 t = .int .i64 (R'.of t)) (mine : ∀ t, t < 6 → RwAt w own (14 + t) (fset f j i v 3 t) (R'.mine t)) (stk : ∀ h, h < 6 → RwAt w own (20 + h) (fset f j i v 4 h) (R'.L h).reverse)
    (sw : ∀ h, h < 6 → fset f j i v 5 h = .int .i64 (R'.sw h)) (seen : ∀ t, t < 6 → fset f j i v 6 t = .int .i64 (R'.seen t)) (steps : ∀ t, t < 6 → fset f j i v 7 t = .int .i64 (R'.steps t)) :
    RunAt w0 (w.setCell ⟨rb, 2 + 6 * j + i, none⟩ v) c R' rb pb L own (fset f j i v) := by
  have hk : Keep (fun k => k = rb) w (w.setCell ⟨rb, 2 + 6 * j + i, none⟩ v) := (Keep.refl (fun k => k = rb) w).setCell (.inl rfl) _
  have ne : ∀ t, t ≠ 1 → ∀ k, k = rb → own k ≠ some t := fun t ht k e => by rw [e, h.orb]; simpa using Ne.symm ht
  refine ⟨?_, h.orb, h.kp.setCell (h.olt rb (by rw [h.orb]; simp)).1.symm _, fun k e => ⟨(h.olt k e).1, Nat.lt_of_lt_of_le (h.olt k e).2 hk.size⟩, ?_, fun t ht => (op t ht).keep hk (Ext.refl _) (fun k e => ⟨ne _ (by omega) k e, ne _ (by omega) k e⟩), of, fun t ht => (mine t ht).keep hk (Ext.refl _) (ne _ (by omega)), fun t ht => (stk t ht).keep hk (Ext.refl _) (ne _ (by omega)), sw, seen, steps⟩
  · rw [set_same h.head _, List.setIfInBounds_toArray, rnCells_set hj hi]
  · rw [hs]
    exact h.pl.keep hk (Ext.refl _) (ne _ (by omega))
theorem RunAt.setOf (h : RunAt w0 w c R rb pb L own f) {i : Nat} (hi : i < 6) (x : Int) : RunAt w0 (w.setCell ⟨rb, 2 + 6 * 2 + i, none⟩ (.int .i64 x)) c { R with of := pup R.of i x } rb pb L own (fset f 2 i (.int .i64 x)) :=
  h.put (by decide) hi _ _ rfl (fun t ht => by rw [fset_row (by decide), fset_row (by decide)]; exact h.op t ht) (fun t ht => by
    show _ = Value.int .i64 (pup R.of i x t)
    by_cases e : t = i
    · subst e; rw [fset_me, pup_me]
    · rw [fset_col e, pup_ne e]; exact h.of t ht) (fun t ht => by rw [fset_row (by decide)]; exact h.mine t ht) (fun t ht => by rw [fset_row (by decide)]; exact h.stk t ht) (fun t ht => by rw [fset_row (by decide)]; exact h.sw t ht) (fun t ht => by rw [fset_row (by decide)]; exact h.seen t ht) (fun t ht => by rw [fset_row (by decide)]; exact h.steps t ht)
theorem RunAt.setSw (h : RunAt w0 w c R rb pb L own f) {i : Nat} (hi : i < 6) (x : Int) : RunAt w0 (w.setCell ⟨rb, 2 + 6 * 5 + i, none⟩ (.int .i64 x)) c { R with sw := pup R.sw i x } rb pb L own (fset f 5 i (.int .i64 x)) :=
  h.put (by decide) hi _ _ rfl (fun t ht => by rw [fset_row (by decide), fset_row (by decide)]; exact h.op t ht) (fun t ht => by rw [fset_row (by decide)]; exact h.of t ht) (fun t ht => by rw [fset_row (by decide)]; exact h.mine t ht) (fun t ht => by rw [fset_row (by decide)]; exact h.stk t ht) (fun t ht => by
    show _ = Value.int .i64 (pup R.sw i x t)
    by_cases e : t = i
    · subst e; rw [fset_me, pup_me]
    · rw [fset_col e, pup_ne e]; exact h.sw t ht) (fun t ht => by rw [fset_row (by decide)]; exact h.seen t ht) (fun t ht => by rw [fset_row (by decide)]; exact h.steps t ht)
theorem RunAt.setSeen (h : RunAt w0 w c R rb pb L own f) {i : Nat} (hi : i < 6) (x : Int) : RunAt w0 (w.setCell ⟨rb, 2 + 6 * 6 + i, none⟩ (.int .i64 x)) c { R with seen := pup R.seen i x } rb pb L own (fset f 6 i (.int .i64 x)) :=
  h.put (by decide) hi _ _ rfl (fun t ht => by rw [fset_row (by decide), fset_row (by decide)]; exact h.op t ht) (fun t ht => by rw [fset_row (by decide)]; exact h.of t ht) (fun t ht => by rw [fset_row (by decide)]; exact h.mine t ht) (fun t ht => by rw [fset_row (by decide)]; exact h.stk t ht) (fun t ht => by rw [fset_row (by decide)]; exact h.sw t ht) (fun t ht => by
    show _ = Value.int .i64 (pup R.seen i x t)
    by_cases e : t = i
    · subst e; rw [fset_me, pup_me]
    · rw [fset_col e, pup_ne e]; exact h.seen t ht) (fun t ht => by rw [fset_row (by decide)]; exact h.steps t ht)
theorem RunAt.setSteps (h : RunAt w0 w c R rb pb L own f) {i : Nat} (hi : i < 6) (x : Int) : RunAt w0 (w.setCell ⟨rb, 2 + 6 * 7 + i, none⟩ (.int .i64 x)) c { R with steps := pup R.steps i x } rb pb L own (fset f 7 i (.int .i64 x)) :=
  h.put (by decide) hi _ _ rfl (fun t ht => by rw [fset_row (by decide), fset_row (by decide)]; exact h.op t ht) (fun t ht => by rw [fset_row (by decide)]; exact h.of t ht) (fun t ht => by rw [fset_row (by decide)]; exact h.mine t ht) (fun t ht => by rw [fset_row (by decide)]; exact h.stk t ht) (fun t ht => by rw [fset_row (by decide)]; exact h.sw t ht) (fun t ht => by rw [fset_row (by decide)]; exact h.seen t ht) (fun t ht => by
    show _ = Value.int .i64 (pup R.steps i x t)
    by_cases e : t = i
    · subst e; rw [fset_me, pup_me]
    · rw [fset_col e, pup_ne e]; exact h.steps t ht)
theorem RunAt.setMine (h : RunAt w0 w c R rb pb L own f) {i : Nat} (hi : i < 6) (v : Value) (zs : List Int) (hv : RwAt w own (14 + i) v zs) : RunAt w0 (w.setCell ⟨rb, 2 + 6 * 3 + i, none⟩ v) c { R with mine := pup R.mine i zs } rb pb L own (fset f 3 i v) :=
  h.put (by decide) hi _ _ rfl (fun t ht => by rw [fset_row (by decide), fset_row (by decide)]; exact h.op t ht) (fun t ht => by rw [fset_row (by decide)]; exact h.of t ht) (fun t ht => by
    show RwAt w own _ _ (pup R.mine i zs t)
    by_cases e : t = i
    · subst e; rw [fset_me, pup_me]; exact hv
    · rw [fset_col e, pup_ne e]; exact h.mine t ht) (fun t ht => by rw [fset_row (by decide)]; exact h.stk t ht) (fun t ht => by rw [fset_row (by decide)]; exact h.sw t ht) (fun t ht => by rw [fset_row (by decide)]; exact h.seen t ht) (fun t ht => by rw [fset_row (by decide)]; exact h.steps t ht)
theorem RunAt.setStk (h : RunAt w0 w c R rb pb L own f) {i : Nat} (hi : i < 6) (v : Value) (zs : List Int) (hv : RwAt w own (20 + i) v zs.reverse) : RunAt w0 (w.setCell ⟨rb, 2 + 6 * 4 + i, none⟩ v) c { R with L := pup R.L i zs } rb pb L own (fset f 4 i v) :=
  h.put (by decide) hi _ _ rfl (fun t ht => by rw [fset_row (by decide), fset_row (by decide)]; exact h.op t ht) (fun t ht => by rw [fset_row (by decide)]; exact h.of t ht) (fun t ht => by rw [fset_row (by decide)]; exact h.mine t ht) (fun t ht => by
    show RwAt w own _ _ (pup R.L i zs t).reverse
    by_cases e : t = i
    · subst e; rw [fset_me, pup_me]; exact hv
    · rw [fset_col e, pup_ne e]; exact h.stk t ht) (fun t ht => by rw [fset_row (by decide)]; exact h.sw t ht) (fun t ht => by rw [fset_row (by decide)]; exact h.seen t ht) (fun t ht => by rw [fset_row (by decide)]; exact h.steps t ht)
/-- An operation is over. -/
theorem RunAt.drop0 (h : RunAt w0 w c R rb pb L own f) {i : Nat} (hi : i < 6) (h1 : f 1 i = .pointer none) : RunAt w0 (w.setCell ⟨rb, 2 + 6 * 0 + i, none⟩ (.pointer none)) c { R with ops := pup R.ops i none } rb pb L own (fset f 0 i (.pointer none)) :=
  h.put (by decide) hi _ _ rfl (fun t ht => by
    rw [fset_row (j' := 1) (by decide)]
    show OpAt w own c pb t (pup R.ops i none t) _ _
    by_cases e : t = i
    · subst e; rw [fset_me, pup_me]; exact ⟨rfl, h1⟩
    · rw [fset_col e, pup_ne e]; exact h.op t ht) (fun t ht => by rw [fset_row (by decide)]; exact h.of t ht) (fun t ht => by rw [fset_row (by decide)]; exact h.mine t ht) (fun t ht => by rw [fset_row (by decide)]; exact h.stk t ht) (fun t ht => by rw [fset_row (by decide)]; exact h.sw t ht) (fun t ht => by rw [fset_row (by decide)]; exact h.seen t ht) (fun t ht => by rw [fset_row (by decide)]; exact h.steps t ht)
theorem RunAt.drop1 (h : RunAt w0 w c R rb pb L own f) {i : Nat} (hi : i < 6) (h1 : f 0 i = .pointer none) : RunAt w0 (w.setCell ⟨rb, 2 + 6 * 1 + i, none⟩ (.pointer none)) c { R with ops := pup R.ops i none } rb pb L own (fset f 1 i (.pointer none)) :=
  h.put (by decide) hi _ _ rfl (fun t ht => by
    rw [fset_row (j' := 0) (by decide)]
    show OpAt w own c pb t (pup R.ops i none t) _ _
    by_cases e : t = i
    · subst e; rw [fset_me, pup_me]; exact ⟨h1, rfl⟩
    · rw [fset_col e, pup_ne e]; exact h.op t ht) (fun t ht => by rw [fset_row (by decide)]; exact h.of t ht) (fun t ht => by rw [fset_row (by decide)]; exact h.mine t ht) (fun t ht => by rw [fset_row (by decide)]; exact h.stk t ht) (fun t ht => by rw [fset_row (by decide)]; exact h.sw t ht) (fun t ht => by rw [fset_row (by decide)]; exact h.seen t ht) (fun t ht => by rw [fset_row (by decide)]; exact h.steps t ht)
/-- An operation has begun. -/
theorem RunAt.beg0 (h : RunAt w0 w c R rb pb L own f) {i : Nat} (hi : i < 6) (h1 : f 1 i = .pointer none) {tb m : Nat} {o : PO} (ht : TkAt w tb m pb c o) (o1 : own tb = some (2 + i)) (o2 : own m = some (8 + i)) : RunAt w0 (w.setCell ⟨rb, 2 + 6 * 0 + i, none⟩ (.pointer (some ⟨tb, 0, none⟩))) c { R with ops := pup R.ops i (some o) } rb pb L own (fset f 0 i (.pointer (some ⟨tb, 0, none⟩))) :=
  h.put (by decide) hi _ _ rfl (fun t ht' => by
    rw [fset_row (j' := 1) (by decide)]
    show OpAt w own c pb t (pup R.ops i (some o) t) _ _
    by_cases e : t = i
    · subst e; rw [fset_me, pup_me]; exact ⟨tb, m, o1, o2, .inl ⟨rfl, h1, ht⟩⟩
    · rw [fset_col e, pup_ne e]; exact h.op t ht') (fun t ht => by rw [fset_row (by decide)]; exact h.of t ht) (fun t ht => by rw [fset_row (by decide)]; exact h.mine t ht) (fun t ht => by rw [fset_row (by decide)]; exact h.stk t ht) (fun t ht => by rw [fset_row (by decide)]; exact h.sw t ht) (fun t ht => by rw [fset_row (by decide)]; exact h.seen t ht) (fun t ht => by rw [fset_row (by decide)]; exact h.steps t ht)
theorem RunAt.beg1 (h : RunAt w0 w c R rb pb L own f) {i : Nat} (hi : i < 6) (h1 : f 0 i = .pointer none) {tb m : Nat} {o : PO} (ht : GvAt w tb m pb c o) (o1 : own tb = some (2 + i)) (o2 : own m = some (8 + i)) : RunAt w0 (w.setCell ⟨rb, 2 + 6 * 1 + i, none⟩ (.pointer (some ⟨tb, 0, none⟩))) c { R with ops := pup R.ops i (some o) } rb pb L own (fset f 1 i (.pointer (some ⟨tb, 0, none⟩))) :=
  h.put (by decide) hi _ _ rfl (fun t ht' => by
    rw [fset_row (j' := 0) (by decide)]
    show OpAt w own c pb t (pup R.ops i (some o) t) _ _
    by_cases e : t = i
    · subst e; rw [fset_me, pup_me]; exact ⟨tb, m, o1, o2, .inr ⟨h1, rfl, ht⟩⟩
    · rw [fset_col e, pup_ne e]; exact h.op t ht') (fun t ht => by rw [fset_row (by decide)]; exact h.of t ht) (fun t ht => by rw [fset_row (by decide)]; exact h.mine t ht) (fun t ht => by rw [fset_row (by decide)]; exact h.stk t ht) (fun t ht => by rw [fset_row (by decide)]; exact h.sw t ht) (fun t ht => by rw [fset_row (by decide)]; exact h.seen t ht) (fun t ht => by rw [fset_row (by decide)]; exact h.steps t ht)
end
end Go.Proofs.Ytjghenomeindcaa
