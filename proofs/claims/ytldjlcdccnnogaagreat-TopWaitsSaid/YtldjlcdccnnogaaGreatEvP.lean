/- Events as plain data: what event.Check asks for, sections, waits, the grace. No program is named here. -/
import Derived.Test.YtldjlcdccnnogaaGreatBase
set_option linter.unusedVariables false
set_option linter.unusedSimpArgs false
namespace Go.Lf
structure EvR where
  step : Int
  th : Int
  kind : Int
  val : Int
/-- What a thread does, by the events so far. -/
inductive EvS where
  | out
  | inn (v s : Int)
  | wt (set s : Int)
def EvR.to (x : EvR) : EvS := if x.kind = 1 then .inn x.val x.step else if x.kind = 3 then .wt x.val x.step else .out
def evT (l : List EvR) (t : Int) : EvS := l.foldl (fun e x => if x.th = t then x.to else e) .out
theorem evT_nil (t : Int) : evT [] t = .out := rfl
theorem evT_snoc (l : List EvR) (x : EvR) (t : Int) : evT (l ++ [x]) t = if x.th = t then x.to else evT l t := by
  unfold evT
  rw [List.foldl_append]
  rfl
/-- The rule of an event's kind. -/
def EvR.ok (x : EvR) (e : EvS) : Prop :=
  (x.kind = 1 ∧ e = .out ∧ x.val < 64) ∨ (x.kind = 2 ∧ ∃ s, e = .inn x.val s) ∨ (x.kind = 3 ∧ e = .out ∧ x.val ≠ 0) ∨ (x.kind = 4 ∧ ∃ s, e = .wt x.val s)
def EvR.after (x y : EvR) : Prop := y.step < x.step ∨ (x.step = y.step ∧ y.kind = 3 ∧ x.kind = 4 ∧ x.th = y.th)
structure EvR.wf (x : EvR) : Prop where
  s0 : 0 ≤ x.step
  s1 : x.step < 1000000
  t0 : 0 ≤ x.th
  t1 : x.th < 64
  v0 : 0 ≤ x.val
  v1 : x.val < 18446744073709551616
/-- Whether a set has a value. -/
def hasv (set v : Int) : Bool := decide (v < 64) && set.toNat.testBit v.toNat
/-- A done wait leaves nothing open that it had to wait for. -/
def EvR.grace (x : EvR) (l : List EvR) : Prop := x.kind = 4 → ∀ (t v s f : Int), evT l t = .inn v s → evT l x.th = .wt x.val f → s < f → hasv x.val v = false
/-- The events that event.Check and grace.Check accept. -/
inductive EvGood : List EvR → Prop where
  | nil : EvGood []
  | snoc {l : List EvR} {x : EvR} : EvGood l → x.wf → (∀ y, l.getLast? = some y → x.after y) → x.ok (evT l x.th) → x.grace l → EvGood (l ++ [x])
theorem EvGood.init {l : List EvR} {x : EvR} (h : EvGood (l ++ [x])) : EvGood l ∧ x.wf ∧ (∀ y, l.getLast? = some y → x.after y) ∧ x.ok (evT l x.th) ∧ x.grace l := by
  generalize hm : l ++ [x] = m at h
  cases h with
  | nil => simp at hm
  | snoc a b c d e =>
    obtain ⟨rfl, h2⟩ := List.append_inj' hm rfl
    simp only [List.cons.injEq, and_true] at h2
    subst h2
    exact ⟨a, b, c, d, e⟩
theorem take_snoc_ev {α : Type} {l : List α} {i : Nat} {x : α} (h : l[i]? = some x) : l.take (i + 1) = l.take i ++ [x] := by
  rw [List.take_add_one, h]; rfl
theorem EvGood.take {l : List EvR} (h : EvGood l) : ∀ i, EvGood (l.take i) := by
  induction h with
  | nil => intro i; simpa using EvGood.nil
  | @snoc l x h1 h2 h3 h4 h5 ih =>
    intro i
    by_cases hi : i ≤ l.length
    · rw [List.take_append_of_le_length hi]; exact ih i
    · rw [List.take_of_length_le (by simp; omega)]
      exact .snoc h1 h2 h3 h4 h5
theorem EvGood.at {l : List EvR} (h : EvGood l) {i : Nat} {x : EvR} (hx : l[i]? = some x) : x.wf ∧ (∀ y, 0 < i → l[i - 1]? = some y → x.after y) ∧ x.ok (evT (l.take i) x.th) ∧ x.grace (l.take i) := by
  have := h.take (i + 1)
  rw [take_snoc_ev hx] at this
  obtain ⟨-, a, b, c, d⟩ := this.init
  refine ⟨a, fun y hi hy => b y ?_, c, d⟩
  obtain ⟨j, rfl⟩ : ∃ j, i = j + 1 := ⟨i - 1, by omega⟩
  rw [show j + 1 - 1 = j by omega] at hy
  rw [take_snoc_ev hy, List.getLast?_concat]
/-- A pair of events: a section or a wait. -/
structure PrR where
  th : Int
  val : Int
  a : Int
  b : Int
/-- The pairs so far, and the index of the last one of each thread. -/
structure PrS where
  out : List PrR
  last : Int → Option Nat
def PrS.step (bk ek : Int) (s : PrS) (x : EvR) : PrS :=
  if x.kind = bk then ⟨s.out ++ [⟨x.th, x.val, x.step, -1⟩], fun t => if t = x.th then some s.out.length else s.last t⟩
  else if x.kind = ek then ⟨match s.last x.th with
    | some i => s.out.modify i fun p => { p with b := x.step }
    | none => s.out, s.last⟩
  else s
def prS (bk ek : Int) (l : List EvR) : PrS := l.foldl (PrS.step bk ek) ⟨[], fun _ => none⟩
def prs (bk ek : Int) (l : List EvR) : List PrR := (prS bk ek l).out
theorem prS_snoc (bk ek : Int) (l : List EvR) (x : EvR) : prS bk ek (l ++ [x]) = (prS bk ek l).step bk ek x := by
  unfold prS
  rw [List.foldl_append]
  rfl
end Go.Lf
namespace Go.Lf
def EvS.get (bk : Int) : EvS → Option (Int × Int)
  | .out => none
  | .inn v s => if bk = 1 then some (v, s) else none
  | .wt v s => if bk = 3 then some (v, s) else none
structure PrInv (bk ek : Int) (l : List EvR) (S : PrS) : Prop where
  op : ∀ (t v s : Int), (evT l t).get bk = some (v, s) → ∃ i, S.last t = some i ∧ S.out[i]? = some ⟨t, v, s, -1⟩
  cl : ∀ (i : Nat) (p : PrR), S.out[i]? = some p → (p.b = -1 ∧ (evT l p.th).get bk = some (p.val, p.a) ∧ S.last p.th = some i) ∨ (0 ≤ p.b ∧ p.a ≤ p.b)
  bd : ∀ (i : Nat) (p : PrR), S.out[i]? = some p → 0 ≤ p.a ∧ p.a < 1000000 ∧ p.b < 1000000 ∧ 0 ≤ p.val ∧ p.val < 18446744073709551616 ∧ 0 ≤ p.th ∧ p.th < 64
  last : ∀ (t : Int) (i : Nat), S.last t = some i → i < S.out.length
  mono : ∀ y, l.getLast? = some y → ∀ (i : Nat) (p : PrR), S.out[i]? = some p → p.a ≤ y.step ∧ p.b ≤ y.step
  len : S.out.length ≤ l.length
theorem EvR.ok_kind {x : EvR} {e : EvS} (h : x.ok e) : x.kind = 1 ∨ x.kind = 2 ∨ x.kind = 3 ∨ x.kind = 4 := by
  rcases h with ⟨h, -⟩ | ⟨h, -⟩ | ⟨h, -⟩ | ⟨h, -⟩ <;> simp [h]
/-- What an event does to the state of a thread as one kind of pair sees it. -/
theorem EvR.to_get {x : EvR} {e : EvS} {bk ek : Int} (hbe : (bk = 1 ∧ ek = 2) ∨ (bk = 3 ∧ ek = 4)) (h : x.ok e) :
    (x.kind = bk ∧ e.get bk = none ∧ x.to.get bk = some (x.val, x.step)) ∨ (x.kind ≠ bk ∧ x.kind = ek ∧ (∃ s, e.get bk = some (x.val, s)) ∧ x.to.get bk = none) ∨ (x.kind ≠ bk ∧ x.kind ≠ ek ∧ e.get bk = none ∧ x.to.get bk = none) := by
  rcases hbe with ⟨rfl, rfl⟩ | ⟨rfl, rfl⟩ <;> rcases h with ⟨h, rfl, -⟩ | ⟨h, s, rfl⟩ | ⟨h, rfl, -⟩ | ⟨h, s, rfl⟩
  · exact .inl ⟨h, rfl, by simp [EvR.to, h, EvS.get]⟩
  · exact .inr (.inl ⟨by omega, h, ⟨s, rfl⟩, by simp [EvR.to, h, EvS.get]⟩)
  · exact .inr (.inr ⟨by omega, by omega, rfl, by simp [EvR.to, h, EvS.get]⟩)
  · exact .inr (.inr ⟨by omega, by omega, rfl, by simp [EvR.to, h, EvS.get]⟩)
  · exact .inr (.inr ⟨by omega, by omega, rfl, by simp [EvR.to, h, EvS.get]⟩)
  · exact .inr (.inr ⟨by omega, by omega, rfl, by simp [EvR.to, h, EvS.get]⟩)
  · exact .inl ⟨h, rfl, by simp [EvR.to, h, EvS.get]⟩
  · exact .inr (.inl ⟨by omega, h, ⟨s, rfl⟩, by simp [EvR.to, h, EvS.get]⟩)
theorem last_step {l : List EvR} {x : EvR} (h : ∀ y, l.getLast? = some y → x.after y) {y : EvR} (hy : l.getLast? = some y) : y.step ≤ x.step := by
  rcases h y hy with h | h
  · omega
  · omega
theorem out_last {l : List EvR} {S : PrS} {i : Nat} {p : PrR} (hl : S.out.length ≤ l.length) (hp : S.out[i]? = some p) : ∃ y, l.getLast? = some y := by
  have := (List.getElem?_eq_some_iff.1 hp).1
  match l with
  | [] => simp only [List.length_nil] at hl; omega
  | z :: l => exact ⟨_, List.getLast?_cons⟩
theorem PrInv.of {bk ek : Int} (hbe : (bk = 1 ∧ ek = 2) ∨ (bk = 3 ∧ ek = 4)) {l : List EvR} (h : EvGood l) : PrInv bk ek l (prS bk ek l) := by
  induction h with
  | nil => exact ⟨fun t v s h => by simp [evT, EvS.get] at h, fun i p h => by simp [prS] at h, fun i p h => by simp [prS] at h, fun t i h => by simp [prS] at h, fun y h => by simp at h, by simp [prS]⟩
  | @snoc l x h1 hw ha ho hg ih =>
    rw [prS_snoc]
    have mono' : ∀ (i : Nat) (p : PrR), (prS bk ek l).out[i]? = some p → p.a ≤ x.step ∧ p.b ≤ x.step := fun i p hp => by
      obtain ⟨y, hy⟩ := out_last ih.len hp
      have := ih.mono y hy i p hp
      have := last_step ha hy
      omega
    have lastx : ∀ y, (l ++ [x]).getLast? = some y → y = x := fun y hy => by rw [List.getLast?_concat] at hy; exact (Option.some.inj hy).symm
    rcases x.to_get hbe ho with ⟨hk, g1, g2⟩ | ⟨hk, hk2, ⟨s0, g1⟩, g2⟩ | ⟨hk, hk2, g1, g2⟩
    · have e : (prS bk ek l).step bk ek x = ⟨(prS bk ek l).out ++ [⟨x.th, x.val, x.step, -1⟩], fun t => if t = x.th then some (prS bk ek l).out.length else (prS bk ek l).last t⟩ := by unfold PrS.step; rw [if_pos hk]
      rw [e]
      refine ⟨fun t v s h => ?_, fun i p h => ?_, fun i p h => ?_, fun t i h => ?_, fun y hy i p h => ?_, by simp [ih.len]⟩
      · rw [evT_snoc] at h
        by_cases et : x.th = t
        · subst et
          rw [if_pos rfl, g2] at h
          simp only [Option.some.injEq, Prod.mk.injEq] at h
          obtain ⟨rfl, rfl⟩ := h
          exact ⟨_, if_pos rfl, by simp⟩
        · rw [if_neg et] at h
          obtain ⟨i, h2, h3⟩ := ih.op t v s h
          refine ⟨i, (if_neg (Ne.symm et)).trans h2, ?_⟩
          rw [List.getElem?_append_left (List.getElem?_eq_some_iff.1 h3).1]
          exact h3
      · rcases get_snoc h with ⟨e1, e2⟩ | ⟨e1, e2⟩
        · subst e1; subst e2
          exact .inl ⟨rfl, by rw [evT_snoc, if_pos rfl]; exact g2, if_pos rfl⟩
        · rcases ih.cl i p e2 with ⟨q1, q2, q3⟩ | q
          · have et : x.th ≠ p.th := fun e => by rw [← e, g1] at q2; cases q2
            exact .inl ⟨q1, by rw [evT_snoc, if_neg et]; exact q2, (if_neg (Ne.symm et)).trans q3⟩
          · exact .inr q
      · rcases get_snoc h with ⟨e1, e2⟩ | ⟨e1, e2⟩
        · subst e2
          exact ⟨hw.s0, hw.s1, by show (-1 : Int) < _; omega, hw.v0, hw.v1, hw.t0, hw.t1⟩
        · exact ih.bd i p e2
      · show i < ((prS bk ek l).out ++ _).length
        rw [List.length_append]
        simp only at h
        split at h
        · cases h; simp
        · have := ih.last t i h; omega
      · rw [lastx y hy]
        rcases get_snoc h with ⟨e1, e2⟩ | ⟨e1, e2⟩
        · subst e2
          have := hw.s0
          exact ⟨Int.le_refl _, by show (-1 : Int) ≤ _; omega⟩
        · exact mono' i p e2
    · obtain ⟨j, hj, hpj⟩ := ih.op _ _ _ g1
      have e : (prS bk ek l).step bk ek x = ⟨(prS bk ek l).out.modify j fun p => { p with b := x.step }, (prS bk ek l).last⟩ := by unfold PrS.step; rw [if_neg hk, if_pos hk2, hj]
      have hm : ∀ (i : Nat) (p : PrR), ((prS bk ek l).out.modify j fun p => { p with b := x.step })[i]? = some p → (i = j ∧ p = ⟨x.th, x.val, s0, x.step⟩) ∨ (i ≠ j ∧ (prS bk ek l).out[i]? = some p) := fun i p hp => by
        rw [List.getElem?_modify] at hp
        by_cases e : j = i
        · subst e
          rw [hpj] at hp
          simp only [if_true, Option.map_eq_map, Option.map_some, Option.some.injEq] at hp
          exact .inl ⟨rfl, hp.symm⟩
        · simp only [if_neg e, Option.map_eq_map, Option.map_id'] at hp
          exact .inr ⟨Ne.symm e, by simpa using hp⟩
      rw [e]
      have hb := ih.bd j _ hpj
      have hmo := mono' j _ hpj
      refine ⟨fun t v s h => ?_, fun i p h => ?_, fun i p h => ?_, fun t i h => ?_, fun y hy i p h => ?_, by rw [List.length_modify]; have := ih.len; simp; omega⟩
      · rw [evT_snoc] at h
        by_cases et : x.th = t
        · rw [if_pos et, g2] at h; cases h
        · rw [if_neg et] at h
          obtain ⟨i, h2, h3⟩ := ih.op t v s h
          refine ⟨i, h2, ?_⟩
          rw [List.getElem?_modify]
          have : j ≠ i := fun e => by
            subst e
            rw [hpj] at h3
            simp only [Option.some.injEq, PrR.mk.injEq] at h3
            exact et h3.1
          simp only [if_neg this]
          simpa using h3
      · rcases hm i p h with ⟨e1, e2⟩ | ⟨e1, e2⟩
        · subst e2
          exact .inr ⟨hw.s0, hmo.1⟩
        · rcases ih.cl i p e2 with ⟨q1, q2, q3⟩ | q
          · have et : x.th ≠ p.th := fun e => by
              rw [← e, hj] at q3
              exact e1 (Option.some.inj q3).symm
            exact .inl ⟨q1, by rw [evT_snoc, if_neg et]; exact q2, q3⟩
          · exact .inr q
      · rcases hm i p h with ⟨e1, e2⟩ | ⟨e1, e2⟩
        · subst e2
          exact ⟨hb.1, hb.2.1, hw.s1, hb.2.2.2⟩
        · exact ih.bd i p e2
      · show i < ((prS bk ek l).out.modify j _).length
        rw [List.length_modify]
        exact ih.last t i h
      · rw [lastx y hy]
        rcases hm i p h with ⟨e1, e2⟩ | ⟨e1, e2⟩
        · subst e2
          exact ⟨hmo.1, Int.le_refl _⟩
        · exact mono' i p e2
    · have e : (prS bk ek l).step bk ek x = prS bk ek l := by unfold PrS.step; rw [if_neg hk, if_neg hk2]
      rw [e]
      refine ⟨fun t v s h => ?_, fun i p h => ?_, ih.bd, ih.last, fun y hy i p h => by rw [lastx y hy]; exact mono' i p h, by have := ih.len; simp; omega⟩
      · rw [evT_snoc] at h
        by_cases et : x.th = t
        · rw [if_pos et, g2] at h; cases h
        · rw [if_neg et] at h; exact ih.op t v s h
      · rcases ih.cl i p h with ⟨q1, q2, q3⟩ | q
        · have et : x.th ≠ p.th := fun e => by rw [← e, g1] at q2; cases q2
          exact .inl ⟨q1, by rw [evT_snoc, if_neg et]; exact q2, q3⟩
        · exact .inr q
end Go.Lf
namespace Go.Lf
/-! Least. -/
/-- The sections that a wait has to wait for. -/
def mustP (step set : Int) (s : PrR) : Bool := decide (s.a < step) && (decide (s.b < 0) || decide (step ≤ s.b)) && hasv set s.val
def leastF (acc : Int) : List PrR → Int
  | [] => acc
  | s :: r => if s.b < 0 then -1 else leastF (max acc (s.b + 1)) r
def leasts (l : List EvR) : List Int := (prs 3 4 l).map fun w => leastF w.a ((prs 1 2 l).filter (mustP w.a w.val))
theorem snoc_ind {α : Type} {P : List α → Prop} (h0 : P []) (h1 : ∀ l x, P l → P (l ++ [x])) (l : List α) : P l := by
  rw [← List.reverse_reverse l]
  induction l.reverse with
  | nil => exact h0
  | cons x r ih => rw [List.reverse_cons]; exact h1 _ x ih
theorem prs_keys {bk ek : Int} (hne : bk ≠ ek) (l : List EvR) : (prs bk ek l).map (fun p => (p.th, p.val, p.a)) = (l.filter fun x => decide (x.kind = bk)).map fun x => (x.th, x.val, x.step) := by
  induction l using snoc_ind with
  | h0 => rfl
  | h1 l x ih =>
    unfold prs at ih ⊢
    rw [prS_snoc, List.filter_append, List.map_append, ← ih]
    unfold PrS.step
    by_cases h1 : x.kind = bk
    · rw [if_pos h1]
      simp [h1]
    · rw [if_neg h1]
      have e : ([x].filter fun x => decide (x.kind = bk)) = [] := by simp [h1]
      rw [e, List.map_nil, List.append_nil]
      by_cases h2 : x.kind = ek
      · rw [if_pos h2]
        cases hl : (prS bk ek l).last x.th with
        | none => rfl
        | some i =>
          apply List.ext_getElem?
          intro j
          simp only [List.getElem?_map, List.getElem?_modify]
          cases (prS bk ek l).out[j]? with
          | none => rfl
          | some p =>
            by_cases e : i = j
            · simp [e]
            · simp [e]
      · rw [if_neg h2]
theorem prs_len {bk ek : Int} (hne : bk ≠ ek) (l : List EvR) : (prs bk ek l).length = (l.filter fun x => decide (x.kind = bk)).length := by
  have := congrArg List.length (prs_keys hne l)
  simpa using this
/-- The wait of an event. -/
theorem prs_nth {bk ek : Int} (hne : bk ≠ ek) {l : List EvR} {i : Nat} {x : EvR} (hx : l[i]? = some x) (hk : x.kind = bk) : ∃ p, (prs bk ek l)[((l.take i).filter fun x => decide (x.kind = bk)).length]? = some p ∧ p.th = x.th ∧ p.val = x.val ∧ p.a = x.step := by
  have hf : (l.filter fun x => decide (x.kind = bk))[((l.take i).filter fun x => decide (x.kind = bk)).length]? = some x := by
    have h1 : l = l.take i ++ x :: l.drop (i + 1) := by
      have := List.take_append_drop i l
      rw [← List.getElem_cons_drop (h := (List.getElem?_eq_some_iff.1 hx).1)] at this
      rw [(List.getElem?_eq_some_iff.1 hx).2] at this
      exact this.symm
    have h2 : (l.filter fun x => decide (x.kind = bk)) = (l.take i).filter (fun x => decide (x.kind = bk)) ++ x :: (l.drop (i + 1)).filter (fun x => decide (x.kind = bk)) := by
      conv => lhs; rw [h1]
      rw [List.filter_append, List.filter_cons_of_pos (by simp [hk])]
    rw [h2, List.getElem?_append_right (Nat.le_refl _), Nat.sub_self]
    rfl
  have h3 := congrArg (fun m => m[((l.take i).filter fun x => decide (x.kind = bk)).length]?) (prs_keys hne l)
  simp only [List.getElem?_map, hf, Option.map_some, Option.map_eq_some_iff, Prod.mk.injEq] at h3
  obtain ⟨p, h4, h5, h6, h7⟩ := h3
  exact ⟨p, h4, h5, h6, h7⟩
theorem rel_keep {l : List EvR} {z : EvR} {f st d : Int} (h : EvGood (l ++ [z])) (R : ∀ (i : Nat) (p : PrR), (prs 1 2 l)[i]? = some p → p.a < f → hasv st p.val = true → 0 ≤ p.b ∧ p.b < d) (hz : f ≤ z.step) :
    ∀ (i : Nat) (p : PrR), (prs 1 2 (l ++ [z]))[i]? = some p → p.a < f → hasv st p.val = true → 0 ≤ p.b ∧ p.b < d := by
  obtain ⟨h1, hw, ha, ho, hg⟩ := h.init
  have inv := PrInv.of (bk := 1) (ek := 2) (.inl ⟨rfl, rfl⟩) h1
  intro i p hp hpa hpv
  unfold prs at hp
  rw [prS_snoc] at hp
  unfold PrS.step at hp
  split at hp
  · rcases get_snoc hp with ⟨e1, e2⟩ | ⟨e1, e2⟩
    · subst e2
      simp only at hpa
      omega
    · exact R i p e2 hpa hpv
  · split at hp
    · rename_i h1' h2
      cases hl : (prS 1 2 l).last z.th with
      | none =>
        rw [hl] at hp
        exact R i p hp hpa hpv
      | some j =>
        rw [hl] at hp
        simp only [List.getElem?_modify] at hp
        cases hq : (prS 1 2 l).out[i]? with
        | none => rw [hq] at hp; simp at hp
        | some q =>
          rw [hq] at hp
          by_cases e : j = i
          · simp only [e, if_true, Option.map_eq_map, Option.map_some, Option.some.injEq] at hp
            subst hp
            obtain ⟨q1, q2⟩ := R i q hq hpa hpv
            rcases z.to_get (bk := 1) (ek := 2) (.inl ⟨rfl, rfl⟩) ho with ⟨hk, -⟩ | ⟨-, -, ⟨s0, g1⟩, -⟩ | ⟨-, hk, -⟩
            · omega
            · obtain ⟨j', hj', hp'⟩ := inv.op _ _ _ g1
              rw [hl] at hj'
              obtain rfl := Option.some.inj hj'
              rw [e, hq] at hp'
              obtain rfl := Option.some.inj hp'
              simp only at q1
              omega
            · exact absurd h2 hk
          · simp only [if_neg e, Option.map_eq_map, Option.map_some, Option.some.injEq] at hp
            have hp : q = p := by simpa using hp
            subst hp
            exact R i q hq hpa hpv
    · exact R i p hp hpa hpv
theorem EvGood.steps {l : List EvR} (h : EvGood l) : ∀ {i j : Nat} {x y : EvR}, i ≤ j → l[i]? = some x → l[j]? = some y → x.step ≤ y.step := by
  intro i j
  induction j with
  | zero => intro x y hij hx hy; obtain rfl : i = 0 := by omega
            rw [hx] at hy; obtain rfl := Option.some.inj hy; exact Int.le_refl _
  | succ j ih =>
    intro x y hij hx hy
    by_cases e : i = j + 1
    · subst e; rw [hx] at hy; obtain rfl := Option.some.inj hy; exact Int.le_refl _
    · obtain ⟨z, hz⟩ : ∃ z, l[j]? = some z := ⟨_, List.getElem?_eq_getElem (by have := (List.getElem?_eq_some_iff.1 hy).1; omega)⟩
      have h1 := ih (by omega) hx hz
      have h2 := (h.at hy).2.1 z (by omega) (by rw [show j + 1 - 1 = j by omega]; exact hz)
      rcases h2 with h2 | h2 <;> omega
/-- The end of the last section is before a wait that begins. -/
theorem wait_last {l : List EvR} (h : EvGood l) {y : EvR} (hy : l.getLast? = some y) (hk : y.kind = 3) : ∀ (i : Nat) (p : PrR), (prs 1 2 l)[i]? = some p → p.b < y.step := by
  cases h with
  | nil => simp at hy
  | @snoc l x h1 hw ha ho hg =>
    rw [List.getLast?_concat] at hy
    obtain rfl := Option.some.inj hy
    have inv := PrInv.of (bk := 1) (ek := 2) (.inl ⟨rfl, rfl⟩) h1
    intro i p hp
    unfold prs at hp
    rw [prS_snoc] at hp
    unfold PrS.step at hp
    rw [if_neg (by omega), if_neg (by omega)] at hp
    obtain ⟨z, hz⟩ := out_last inv.len hp
    have h2 := inv.mono z hz i p hp
    rcases ha z hz with h3 | h3
    · omega
    · omega
theorem least_done {l : List EvR} (h : EvGood l) {i k : Nat} {x y : EvR} (hx : l[i]? = some x) (kx : x.kind = 3) (hik : i < k) (hy : l[k]? = some y) (ky : y.kind = 4) (ht : y.th = x.th) (hf : ∀ (j : Nat) (z : EvR), i < j → j < k → l[j]? = some z → ¬ (z.kind = 4 ∧ z.th = x.th)) :
    x.step ≤ y.step ∧ ∀ (u : Nat) (p : PrR), (prs 1 2 l)[u]? = some p → mustP x.step x.val p = true → 0 ≤ p.b ∧ p.b < y.step := by
  have hkl := (List.getElem?_eq_some_iff.1 hy).1
  have hst : ∀ n, i + 1 + n ≤ k → evT (l.take (i + 1 + n)) x.th = .wt x.val x.step := by
    intro n
    induction n with
    | zero =>
      intro _
      rw [Nat.add_zero, take_snoc_ev hx, evT_snoc, if_pos rfl]
      unfold EvR.to
      rw [if_neg (by omega), if_pos kx]
    | succ n ih =>
      intro hn
      have ih := ih (by omega)
      obtain ⟨z, hz⟩ : ∃ z, l[i + 1 + n]? = some z := ⟨_, List.getElem?_eq_getElem (by omega)⟩
      rw [show i + 1 + (n + 1) = i + 1 + n + 1 by omega, take_snoc_ev hz, evT_snoc]
      by_cases e : z.th = x.th
      · exfalso
        have hok := (h.at hz).2.2.1
        rw [e, ih] at hok
        rcases hok with ⟨-, h2, -⟩ | ⟨-, s, h2⟩ | ⟨-, h2, -⟩ | ⟨h2, -⟩
        · cases h2
        · cases h2
        · cases h2
        · exact hf _ z (by omega) (by omega) hz ⟨h2, e⟩
      · rw [if_neg e]; exact ih
  have hwk : evT (l.take k) x.th = .wt x.val x.step := by have := hst (k - (i + 1)) (by omega); rwa [show i + 1 + (k - (i + 1)) = k by omega] at this
  have hyv : y.val = x.val := by
    rcases (h.at hy).2.2.1 with ⟨h2, -⟩ | ⟨h2, -⟩ | ⟨h2, -⟩ | ⟨-, s, h2⟩
    · omega
    · omega
    · omega
    · rw [ht, hwk] at h2
      simp only [EvS.wt.injEq] at h2
      exact h2.1.symm
  have hgr := (h.at hy).2.2.2 ky
  have hxy := h.steps (Nat.le_of_lt hik) hx hy
  have inv := PrInv.of (bk := 1) (ek := 2) (.inl ⟨rfl, rfl⟩) (h.take k)
  obtain ⟨z, hz⟩ : ∃ z, l[k - 1]? = some z := ⟨_, List.getElem?_eq_getElem (by omega)⟩
  have hzl : (l.take k).getLast? = some z := by
    have := take_snoc_ev hz
    rw [show k - 1 + 1 = k by omega] at this
    rw [this, List.getLast?_concat]
  have R0 : ∀ (u : Nat) (p : PrR), (prs 1 2 (l.take k))[u]? = some p → p.a < x.step → hasv x.val p.val = true → 0 ≤ p.b ∧ p.b < y.step := by
    intro u p hp h1 h2
    rcases inv.cl u p hp with ⟨q1, q2, q3⟩ | ⟨q1, -⟩
    · exfalso
      have hin : evT (l.take k) p.th = .inn p.val p.a := by
        cases hE : evT (l.take k) p.th with
        | out => rw [hE] at q2; cases q2
        | inn v s =>
          rw [hE] at q2
          simp only [EvS.get, if_true, Option.some.injEq, Prod.mk.injEq] at q2
          rw [q2.1, q2.2]
        | wt v s => rw [hE] at q2; simp [EvS.get] at q2
      have := hgr p.th p.val p.a x.step hin (by rw [ht, hyv]; exact hwk) h1
      rw [hyv, h2] at this
      cases this
    · refine ⟨q1, ?_⟩
      have hm := inv.mono z hzl u p hp
      rcases (h.at hy).2.1 z (by omega) hz with h3 | h3
      · omega
      · have := wait_last (h.take k) hzl h3.2.1 u p hp
        omega
  have RK : ∀ n, k + n ≤ l.length → ∀ (u : Nat) (p : PrR), (prs 1 2 (l.take (k + n)))[u]? = some p → p.a < x.step → hasv x.val p.val = true → 0 ≤ p.b ∧ p.b < y.step := by
    intro n
    induction n with
    | zero => intro _; exact R0
    | succ n ih =>
      intro hn
      obtain ⟨q, hq⟩ : ∃ q, l[k + n]? = some q := ⟨_, List.getElem?_eq_getElem (by omega)⟩
      have e := take_snoc_ev hq
      have hg := h.take (k + n + 1)
      rw [e] at hg
      rw [show k + (n + 1) = k + n + 1 by omega, e]
      exact rel_keep hg (ih (by omega)) (h.steps (by omega) hx hq)
  refine ⟨hxy, fun u p hp hm => ?_⟩
  unfold mustP at hm
  simp only [Bool.and_eq_true, decide_eq_true_eq] at hm
  have := RK (l.length - k) (by omega) u p (by rw [show k + (l.length - k) = l.length by omega, List.take_length]; exact hp) hm.1.1 hm.2
  exact this
theorem leastF_ok {d : Int} : ∀ (L : List PrR) (acc : Int), 0 ≤ acc → acc ≤ d → (∀ p ∈ L, 0 ≤ p.b ∧ p.b < d) → 0 ≤ leastF acc L ∧ leastF acc L ≤ d
  | [], acc, h0, h1, _ => ⟨h0, h1⟩
  | s :: r, acc, h0, h1, h => by
    have hs := h s List.mem_cons_self
    unfold leastF
    rw [if_neg (by omega)]
    exact leastF_ok r _ (by omega) (by omega) fun p hp => h p (List.mem_cons_of_mem _ hp)
/-- What TopGrace asks at the end. -/
theorem leasts_ok {l : List EvR} (h : EvGood l) {i k : Nat} {x y : EvR} (hx : l[i]? = some x) (kx : x.kind = 3) (hik : i < k) (hy : l[k]? = some y) (ky : y.kind = 4) (ht : y.th = x.th) (hf : ∀ (j : Nat) (z : EvR), i < j → j < k → l[j]? = some z → ¬ (z.kind = 4 ∧ z.th = x.th)) :
    ∃ v, (leasts l)[((l.take i).filter fun x => decide (x.kind = 3)).length]? = some v ∧ 0 ≤ v ∧ v ≤ y.step := by
  obtain ⟨p, h1, h2, h3, h4⟩ := prs_nth (bk := 3) (ek := 4) (by decide) hx kx
  obtain ⟨h5, h6⟩ := least_done h hx kx hik hy ky ht hf
  unfold leasts
  rw [List.getElem?_map, h1]
  refine ⟨_, rfl, ?_⟩
  show 0 ≤ leastF p.a (List.filter (mustP p.a p.val) (prs 1 2 l)) ∧ leastF p.a (List.filter (mustP p.a p.val) (prs 1 2 l)) ≤ y.step
  rw [h3, h4]
  refine leastF_ok _ _ (h.at hx).1.s0 h5 fun q hq => ?_
  rw [List.mem_filter] at hq
  obtain ⟨u, hu⟩ := List.getElem?_of_mem hq.1
  exact h6 u q hu hq.2
theorem leasts_len (l : List EvR) : (leasts l).length = (l.filter fun x => decide (x.kind = 3)).length := by
  unfold leasts
  rw [List.length_map, prs_len (by decide)]
end Go.Lf
