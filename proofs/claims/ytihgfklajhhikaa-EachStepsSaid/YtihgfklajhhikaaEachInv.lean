/- each: what holds of a run between two acts (plain). -/
import Derived.Test.YtihgfklajhhikaaEachRun
namespace Go.Lf

/-- Of a wait for a set: what it has to wait for is ahead of it. -/
def EAhead (sl : List (Int × Bool)) (th : List ET) (set : Int) (s : EWS) (l : List Int) : Prop :=
  ∀ (j : Nat) (z : ET) (m : Int), th[j]? = some z → l[j]? = some m → m ≤ z.sec ∧ (0 < m → z.inn = true → z.sec = m → conc set z.val = true ∧ s.pos ≤ j ∧ (s.pos = j → s.st ≠ 0 → ∀ n b, sl[j]? = some (n, b) → s.seen = n))
/-- Of a thread and its slot. -/
structure ENum (ws : List Int) (i : Nat) (x : ET) (n : Int) (b : Bool) (K : Int) : Prop where
  s0 : 0 ≤ x.sec
  s1 : x.sec ≤ K
  sI : x.inn = true → x.en = none ∧ 1 ≤ x.sec ∧ n = 2 * x.sec - 1
  sO : x.inn = false → n = 2 * x.sec
  beg : b = x.en.isSome
  seq : ws[2 * i]? = some n
  val : ∃ v, ws[2 * i + 1]? = some v ∧ 0 ≤ v ∧ v < 64 ∧ (x.inn = true ∨ x.en ≠ none → v = x.val)
  v0 : 0 ≤ x.val
  v1 : x.val < 64
  en : ∀ b k, x.en = some (b, k) → k = 1 ∧ x.inn = false ∧ x.wt = none
structure EInv (sl : List (Int × Bool)) (ws : List Int) (th : List ET) (K : Int) : Prop where
  ln : sl.length = 6
  lt : th.length = 6
  lw : ws.length = 12
  num : ∀ (i : Nat) (x : ET) (n : Int) (b : Bool), th[i]? = some x → sl[i]? = some (n, b) → ENum ws i x n b K
  wait : ∀ (i : Nat) (x : ET) (b : Nat) (s : EWS), th[i]? = some x → x.wt = some (b, s) → x.inn = false ∧ x.en = none ∧ s.st < 3 ∧ s.pos < 6 ∧ (s.st ≠ 0 → s.seen % 2 = 1) ∧ ∃ sb l, x.mu = some (sb, l) ∧ l.length = 6 ∧ EAhead sl th x.set s l

variable {sl : List (Int × Bool)} {ws : List Int} {th : List ET} {K : Int}
theorem ENum.mono {i : Nat} {x : ET} {n : Int} {b : Bool} (h : ENum ws i x n b K) {K' : Int} (hk : K ≤ K') : ENum ws i x n b K' :=
  ⟨h.s0, by have := h.s1; omega, h.sI, h.sO, h.beg, h.seq, h.val, h.v0, h.v1, h.en⟩
theorem EInv.mono (h : EInv sl ws th K) {K' : Int} (hk : K ≤ K') : EInv sl ws th K' :=
  ⟨h.ln, h.lt, h.lw, fun i x n b h1 h2 => (h.num i x n b h1 h2).mono hk, h.wait⟩
theorem EInv.nn {i : Nat} {x : ET} {n : Int} {b : Bool} (h : ENum ws i x n b K) : 0 ≤ n ∧ n ≤ 2 * K ∧ (x.inn = true → n % 2 = 1) ∧ (x.inn = false → n % 2 = 0) := by
  have := h.s0
  have := h.s1
  cases hi : x.inn with
  | true => have := h.sI hi; exact ⟨by omega, by omega, fun _ => by omega, fun h => by cases h⟩
  | false => have := h.sO hi; exact ⟨by omega, by omega, fun h => (by cases h), fun _ => by omega⟩
/-- Thread t has turned; its new section is later than the one it had. -/
theorem EAhead.other {set : Int} {s : EWS} {l : List Int} (h : EAhead sl th set s l) {t : Nat} {x x' : ET} {p : Int × Bool} (hx : th[t]? = some x) (h1 : x.sec ≤ x'.sec) (h2 : x'.inn = true → x.sec < x'.sec) : EAhead (sl.set t p) (th.set t x') set s l := by
  intro j z m h3 h4
  rcases set_cases h3 with ⟨f1, f2⟩ | ⟨f1, f2⟩
  · subst f1; subst f2
    have := (h j x m hx h4).1
    exact ⟨by omega, fun _ h5 h6 => by have := h2 h5; omega⟩
  · obtain ⟨a1, a2⟩ := h j z m f2 h4
    refine ⟨a1, fun h5 h6 h7 => ?_⟩
    obtain ⟨b0, b1, b2⟩ := a2 h5 h6 h7
    exact ⟨b0, b1, fun h8 h9 n b hn => b2 h8 h9 n b (by rwa [List.getElem?_set, if_neg (fun e => f1 e.symm)] at hn)⟩
theorem EAhead.same {set : Int} {s : EWS} {l : List Int} (h : EAhead sl th set s l) {t : Nat} {x x' : ET} (hx : th[t]? = some x) (h1 : x'.inn = x.inn) (h2 : x'.sec = x.sec) (h3 : x'.val = x.val) : EAhead sl (th.set t x') set s l := by
  intro j z m h4 h5
  rcases set_cases h4 with ⟨f1, f2⟩ | ⟨f1, f2⟩
  · subst f1; subst f2
    rw [h1, h2, h3]
    exact h j x m hx h5
  · exact h j z m f2 h5
/-- Thread t and its slot have turned, but no wait. -/
theorem EInv.upd (h : EInv sl ws th K) {t : Nat} {x x' : ET} {p : Int × Bool} {ws' : List Int} {K' : Int} (hx : th[t]? = some x) (hK : K ≤ K') (hws : ∀ i, i ≠ 2 * t → i ≠ 2 * t + 1 → ws'[i]? = ws[i]?) (hlw : ws'.length = 12)
    (h1 : x.sec ≤ x'.sec) (h2 : x'.inn = true → x.sec < x'.sec) (hn : ENum ws' t x' p.1 p.2 K') (hw : x'.wt = none) : EInv (sl.set t p) ws' (th.set t x') K' := by
  refine ⟨by simp [h.ln], by simp [h.lt], hlw, fun i y n b h3 h4 => ?_, fun i y b s h3 h4 => ?_⟩
  · rcases set_cases h3 with ⟨e1, e2⟩ | ⟨e1, e2⟩
    · subst e1; subst e2
      rw [List.getElem?_set, if_pos rfl] at h4
      split at h4
      · obtain rfl := Option.some.inj h4; exact hn
      · cases h4
    · rw [List.getElem?_set, if_neg (fun e => e1 e.symm)] at h4
      have a := (h.num i y n b e2 h4).mono hK
      exact ⟨a.s0, a.s1, a.sI, a.sO, a.beg, by rw [hws _ (by omega) (by omega)]; exact a.seq, by
        obtain ⟨v, hv⟩ := a.val
        exact ⟨v, by rw [hws _ (by omega) (by omega)]; exact hv.1, hv.2⟩, a.v0, a.v1, a.en⟩
  · rcases set_cases h3 with ⟨e1, e2⟩ | ⟨e1, e2⟩
    · subst e2; rw [hw] at h4; cases h4
    · obtain ⟨b1, b2, b3, b4, b5, sb, l, b6, b7, b8⟩ := h.wait i y b s e2 h4
      exact ⟨b1, b2, b3, b4, b5, sb, l, b6, b7, b8.other hx h1 h2⟩
/-- A wait has made a step, or has begun. -/
theorem EInv.turn (h : EInv sl ws th K) {t : Nat} {x x' : ET} (hx : th[t]? = some x) (h1 : x'.inn = x.inn) (h2 : x'.sec = x.sec) (h3 : x'.val = x.val) (h4 : x'.en = x.en) (he : x.en = none)
    (hw : ∀ b s, x'.wt = some (b, s) → x'.inn = false ∧ s.st < 3 ∧ s.pos < 6 ∧ (s.st ≠ 0 → s.seen % 2 = 1) ∧ ∃ sb l, x'.mu = some (sb, l) ∧ l.length = 6 ∧ EAhead sl th x'.set s l) : EInv sl ws (th.set t x') K := by
  refine ⟨h.ln, by simp [h.lt], h.lw, fun i y n b h5 h6 => ?_, fun i y b s h5 h6 => ?_⟩
  · rcases set_cases h5 with ⟨e1, e2⟩ | ⟨e1, e2⟩
    · subst e1; subst e2
      have a := h.num i x n b hx h6
      exact ⟨by rw [h2]; exact a.s0, by rw [h2]; exact a.s1, by rw [h1, h2, h4]; exact a.sI, by rw [h1, h2]; exact a.sO, by rw [h4]; exact a.beg, a.seq, by rw [h1, h3, h4]; exact a.val, by rw [h3]; exact a.v0, by rw [h3]; exact a.v1, fun b k hb => by rw [h4, he] at hb; cases hb⟩
    · exact h.num i y n b e2 h6
  · rcases set_cases h5 with ⟨e1, e2⟩ | ⟨e1, e2⟩
    · subst e2
      obtain ⟨b1, b2, b3, b4, sb, l, b5, b6, b7⟩ := hw b s h6
      exact ⟨b1, h4.trans he, b2, b3, b4, sb, l, b5, b6, b7.same hx h1 h2 h3⟩
    · obtain ⟨b1, b2, b3, b4, b5, sb, l, b6, b7, b8⟩ := h.wait i y b s e2 h6
      exact ⟨b1, b2, b3, b4, b5, sb, l, b6, b7, b8.same hx h1 h2 h3⟩
/-- The word that a wait loads next. -/
theorem EInv.word (h : EInv sl ws th K) (s : EWS) (hp : s.pos < 6) : ∃ y, ws[s.addr]? = some y ∧ 0 ≤ y ∧ (s.st = 1 → y < 64) := by
  obtain ⟨x, hx⟩ : ∃ x, th[s.pos]? = some x := ⟨_, List.getElem?_eq_getElem (by have := h.lt; omega)⟩
  obtain ⟨⟨n, b⟩, hn⟩ : ∃ p, sl[s.pos]? = some p := ⟨_, List.getElem?_eq_getElem (by have := h.ln; omega)⟩
  have a := h.num _ x n b hx hn
  unfold EWS.addr
  split
  · obtain ⟨v, h1, h2, h3, -⟩ := a.val
    exact ⟨v, h1, h2, fun _ => h3⟩
  · rename_i hs
    exact ⟨n, a.seq, (EInv.nn a).1, fun h => absurd h hs⟩
/-- A step of a wait at its word keeps ahead what is ahead. -/
theorem EInv.ahead (h : EInv sl ws th K) {set : Int} {s : EWS} {l : List Int} {y : Int} (ha : EAhead sl th set s l) (hp : s.pos < 6) (hy : ws[s.addr]? = some y) (h3 : s.st < 3) : EAhead sl th set (s.step 6 set y) l := by
  intro j z m h1 h2
  obtain ⟨a1, a2⟩ := ha j z m h1 h2
  refine ⟨a1, fun h4 h5 h6 => ?_⟩
  obtain ⟨b0, b1, b2⟩ := a2 h4 h5 h6
  refine ⟨b0, ?_⟩
  obtain ⟨⟨n, b⟩, hn⟩ : ∃ p, sl[j]? = some p := ⟨_, List.getElem?_eq_getElem (by have := lt_of_at h1; have := h.lt; have := h.ln; omega)⟩
  have e := h.num j z n b h1 hn
  have sq := e.seq
  obtain ⟨v, hv, -, -, hvv⟩ := e.val
  have hvv := hvv (.inl h5)
  have odd := (EInv.nn e).2.2.1 h5
  have nx : ∀ u : EWS, u.pos = s.pos → s.pos ≠ j → (u.next 6).pos ≤ j ∧ ((u.next 6).pos = j → (u.next 6).st ≠ 0 → ∀ n b, sl[j]? = some (n, b) → (u.next 6).seen = n) := by
    intro u hu hne
    obtain ⟨c1, c2, c3⟩ := u.next_pos 6
    have := lt_of_at h1
    have := h.lt
    rcases c3 with ⟨c, d⟩ | ⟨c, d⟩
    · exact ⟨by omega, fun h => by omega⟩
    · exact ⟨by omega, fun _ h => absurd c h⟩
  unfold EWS.addr at hy
  rcases s.step_cases set y 6 with ⟨a, b, c⟩ | ⟨a, b, c⟩ | ⟨a, b, c⟩ | ⟨a, b, c⟩ | ⟨a, b, c⟩ | ⟨a, b, c⟩
  · rw [c]
    refine ⟨b1, fun hj _ n' b' hn' => ?_⟩
    simp only at hj ⊢
    rw [if_neg (by omega), hj, Nat.add_zero, sq] at hy
    rw [hn] at hn'
    simp only [Option.some.injEq, Prod.mk.injEq] at hn' hy
    omega
  · rw [c]
    refine nx _ rfl (fun hj => ?_)
    rw [if_neg (by omega), hj, Nat.add_zero, sq] at hy
    simp only [Option.some.injEq] at hy
    omega
  · rw [c]
    exact ⟨b1, fun hj _ => b2 hj (by omega)⟩
  · rw [c]
    refine nx _ rfl (fun hj => ?_)
    rw [if_pos a, hj, hv] at hy
    simp only [Option.some.injEq] at hy
    rw [← hy, hvv, b0] at b
    cases b
  · rw [c]
    exact ⟨b1, b2⟩
  · rw [c]
    refine nx _ rfl (fun hj => ?_)
    rw [if_neg (by omega), hj, Nat.add_zero, sq] at hy
    simp only [Option.some.injEq] at hy
    exact b (by rw [b2 hj (by omega) _ _ hn]; exact hy.symm)

/-- What a wait that begins has to wait for, of the first k threads. -/
def eList (th : List ET) (set : Int) (k : Nat) : List Int := (List.range 6).map fun i => if i < k then (match th[i]? with | some z => if z.inn && conc set z.val then z.sec else 0 | none => 0) else 0
theorem eList_len (th : List ET) (set : Int) (k : Nat) : (eList th set k).length = 6 := by simp [eList]
theorem eList_zero (th : List ET) (set : Int) : eList th set 0 = [0, 0, 0, 0, 0, 0] := by simp [eList]; rfl
theorem eList_at (th : List ET) (set : Int) (k i : Nat) (hi : i < 6) : (eList th set k)[i]? = some (if i < k then (match th[i]? with | some z => if z.inn && conc set z.val then z.sec else 0 | none => 0) else 0) := by simp [eList, hi]
theorem eList_yes {th : List ET} {set : Int} {k : Nat} {z : ET} (hk : k < 6) (hz : th[k]? = some z) (hin : (z.inn && conc set z.val) = true) : eList th set (k + 1) = (eList th set k).set k z.sec := by
  apply List.ext_getElem?
  intro i
  rw [List.getElem?_set, eList_len]
  by_cases hi : i < 6
  · rw [eList_at th set (k + 1) i hi, eList_at th set k i hi]
    by_cases e : k = i
    · subst e
      rw [if_pos rfl, if_pos hk, if_pos (by omega), hz]
      simp only [hin, if_true]
    · rw [if_neg e]
      by_cases h1 : i < k
      · rw [if_pos (by omega), if_pos h1]
      · rw [if_neg (by omega), if_neg h1]
  · rw [List.getElem?_eq_none (by rw [eList_len]; omega), List.getElem?_eq_none (by rw [eList_len]; omega)]
    split <;> simp
    omega
theorem eList_no {th : List ET} {set : Int} {k : Nat} {z : ET} (hz : th[k]? = some z) (hin : (z.inn && conc set z.val) = false) : eList th set (k + 1) = eList th set k := by
  apply List.ext_getElem?
  intro i
  by_cases hi : i < 6
  · rw [eList_at th set (k + 1) i hi, eList_at th set k i hi]
    by_cases e : k = i
    · subst e
      rw [if_pos (by omega), if_neg (by omega), hz]
      simp [hin]
    · by_cases h1 : i < k
      · rw [if_pos (by omega), if_pos h1]
      · rw [if_neg (by omega), if_neg h1]
  · rw [List.getElem?_eq_none (by rw [eList_len]; omega), List.getElem?_eq_none (by rw [eList_len]; omega)]
theorem eahead_begin (h : EInv sl ws th K) (set y : Int) : EAhead sl th set ⟨0, 0, y⟩ (eList th set 6) := by
  intro j z m h1 h2
  have hj : j < 6 := by have := lt_of_at h1; have := h.lt; omega
  rw [eList_at th set 6 j hj, if_pos hj, h1] at h2
  have hm := Option.some.inj h2
  simp only at hm
  obtain ⟨⟨n, b⟩, hn⟩ : ∃ p, sl[j]? = some p := ⟨_, List.getElem?_eq_getElem (by have := h.ln; omega)⟩
  have := (h.num j z n b h1 hn).s0
  cases hc : (z.inn && conc set z.val) with
  | true =>
    rw [hc, if_pos rfl] at hm
    simp only [Bool.and_eq_true] at hc
    exact ⟨by omega, fun _ _ _ => ⟨hc.2, Nat.zero_le _, fun _ h => absurd rfl h⟩⟩
  | false =>
    rw [hc, if_neg (by decide)] at hm
    exact ⟨by omega, fun h => by omega⟩
/-- A wait that ends has nothing to wait for. -/
theorem EInv.ends (h : EInv sl ws th K) {t : Nat} {x : ET} {b : Nat} {s : EWS} {qb : Nat} {l : List Int} {y : Int} (hx : th[t]? = some x) (hb : x.wt = some (b, s)) (hm : x.mu = some (qb, l)) (hy : ws[s.addr]? = some y) (he : (s.step 6 x.set y).st = 3) :
    ∀ (i : Nat) (z : ET) (m : Int), th[i]? = some z → l[i]? = some m → ¬ (0 < m ∧ z.inn = true ∧ z.sec = m) := by
  obtain ⟨a1, a2, a3, a4, a5, qb', l', a6, a7, a8⟩ := h.wait t x b s hx hb
  rw [hm] at a6
  simp only [Option.some.injEq, Prod.mk.injEq] at a6
  obtain ⟨-, rfl⟩ := a6
  intro i z m h1 h2 ⟨h3, h4, h5⟩
  have ha := h.ahead a8 a4 hy a3
  have := ((ha i z m h1 h2).2 h3 h4 h5).2.1
  have := (EWS.step_form x.set y s a3 a4 a5).1 he
  have := lt_of_at h1
  have := h.lt
  omega
end Go.Lf
