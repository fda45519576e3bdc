/- RangesApart: a store and many lockings of it. -/
import Derived.Test.YtmafdjhjmnghcaaGreatRngAW
set_option linter.unusedVariables false
set_option linter.unusedSimpArgs false
namespace Go.Lf
open Go.RowKit
/-- Where a locking lies, and its state. -/
structure LkB where
  l : Nat
  sb : Nat
  m : Nat
  s : KS
theorem fup_map {α β : Type} (g : α → β) (K : Nat → Option α) (k : Nat) (v : Option α) : (fun j => (fup K k v j).map g) = fup (fun j => (K j).map g) k (v.map g) := by
  funext j
  unfold fup
  split <;> rfl
theorem range_set {α : Type} (f : Nat → α) (n k : Nat) (v : α) : ((List.range n).map f).set k v = (List.range n).map (fup f k v) := by
  apply List.ext_getElem
  · simp
  · intro i h1 h2
    simp only [List.getElem_set, List.getElem_map, List.getElem_range]
    unfold fup
    by_cases h : k = i
    · subst h; simp
    · rw [if_neg h, if_neg (fun e => h e.symm)]
theorem range_at {α : Type} (f : Nat → α) {n k : Nat} (h : k < n) : ((List.range n).map f)[k]? = some (f k) := by
  rw [List.getElem?_map, List.getElem?_range h]; rfl
end Go.Lf
namespace Go.Proofs.YtmafdjhjmnghcaaGreat
open Go.RowKit Go.Lf
def LkB.ptr (o : Option LkB) : Value := .pointer (o.map fun q => ⟨q.l, 0, none⟩)
structure MW (O : Nat → Prop) (w wr : World) (c : Cfg) (b mb : Nat) (ws : List Int) (log : List Acc) (K : Nat → Option LkB) : Prop where
  ex : ∃ A, (StoreL c b mb).lie wr A (ws, log) ∧ (∀ k, A k → w.heap.size ≤ k) ∧ (∀ k q, K k = some q → ¬ A q.l ∧ ¬ A q.sb ∧ ¬ A q.m) ∧ ∀ k, O k → ¬ A k ∧ k < wr.heap.size
  lk : ∀ k q, K k = some q → LkAt wr q.l q.sb q.m b q.s ∧ w.heap.size ≤ q.l
  no : ∀ k q, K k = some q → ¬ O q.l ∧ ¬ O q.sb ∧ ¬ O q.m
  df : ∀ i j p q, i ≠ j → K i = some p → K j = some q → p.l ≠ q.l ∧ p.l ≠ q.sb ∧ p.l ≠ q.m
  own : Keep Nil w wr
section
variable {w wr w' : World} {O : Nat → Prop} {c : Cfg} {b mb k : Nat} {ws ws' : List Int} {log log' : List Acc} {K : Nat → Option LkB} {q : LkB}
theorem LkAt.lt3 {l sb m : Nat} {s : KS} (h : LkAt w l sb m b s) : l < w.heap.size ∧ sb < w.heap.size ∧ m < w.heap.size := by
  obtain ⟨c1, c2, c3, c4, c5, c6, c7, c8, hm⟩ := h.map
  exact ⟨lt_of_block h.head, lt_of_block h.span, hm.lt⟩
theorem MW.sw (h : MW O w wr c b mb ws log K) : SW w wr c b mb ws log := by
  obtain ⟨A, h1, h2, -, -⟩ := h.ex
  exact ⟨⟨A, h1, h2⟩, h.own⟩
theorem MW.ge (h : MW O w wr c b mb ws log K) : w.heap.size ≤ wr.heap.size := h.own.size
theorem MW.quiet (h : MW O w wr c b mb ws log K) (hk : Keep Nil wr w') : MW O w w' c b mb ws log K := by
  obtain ⟨A, h1, h2, h3, h4⟩ := h.ex
  exact ⟨⟨A, (StoreL c b mb).keep h1 hk (fun _ _ h => h), h2, h3, fun k e => ⟨(h4 k e).1, by have := (h4 k e).2; have := hk.size; omega⟩⟩, fun k q e => ⟨(h.lk k q e).1.quiet hk, (h.lk k q e).2⟩, h.no, h.df, h.own.trans hk (fun _ _ h => h)⟩
/-- Blocks of O are written. -/
theorem MW.other (h : MW O w wr c b mb ws log K) (hk : Keep O wr w') (hO : ∀ k, O k → w.heap.size ≤ k) : MW O w w' c b mb ws log K := by
  obtain ⟨A, h1, h2, h3, h4⟩ := h.ex
  exact ⟨⟨A, (StoreL c b mb).keep h1 hk (fun k a e => (h4 k e).1 a), h2, h3, fun k e => ⟨(h4 k e).1, by have := (h4 k e).2; have := hk.size; omega⟩⟩, fun k q e => ⟨(h.lk k q e).1.keep hk (h.no k q e).1 (h.no k q e).2.1 (h.no k q e).2.2, (h.lk k q e).2⟩, h.no, h.df, h.own.trans hk (fun k hl e => by have := hO k e; omega)⟩
theorem MW.start (h : SW w wr c b mb ws log) (hk : Keep Nil wr w') (hO : ∀ k, O k → wr.heap.size ≤ k ∧ k < w'.heap.size) : MW O w w' c b mb ws log (fun _ => none) := by
  obtain ⟨⟨A, h1, h2⟩, h3⟩ := h
  exact ⟨⟨A, (StoreL c b mb).keep h1 hk (fun _ _ h => h), h2, fun k q e => (by cases e), fun k e => ⟨fun a => by have := (StoreL c b mb).lt h1 k a; have := (hO k e).1; omega, (hO k e).2⟩⟩, fun k q e => (by cases e), fun k q e => (by cases e), fun i j p q _ e => (by cases e), h3.trans hk (fun _ _ h => h)⟩
theorem MW.drop (h : MW O w wr c b mb ws log K) (k : Nat) : MW O w wr c b mb ws log (fup K k none) := by
  have g : ∀ j q, fup K k none j = some q → K j = some q := fun j q e => by
    unfold fup at e
    split at e
    · cases e
    · exact e
  obtain ⟨A, h1, h2, h3, h4⟩ := h.ex
  exact ⟨⟨A, h1, h2, fun j q e => h3 j q (g j q e), h4⟩, fun j q e => h.lk j q (g j q e), fun j q e => h.no j q (g j q e), fun i j p q hij e1 e2 => h.df i j p q hij (g i p e1) (g j q e2), h.own⟩
/-- The store turns. -/
theorem MW.turn {A : Nat → Prop} (h : MW O w wr c b mb ws log K) (hA : ∀ k, A k → w.heap.size ≤ k) (hn : ∀ k q, K k = some q → ¬ A q.l ∧ ¬ A q.sb ∧ ¬ A q.m) (hO : ∀ k, O k → ¬ A k ∧ k < wr.heap.size) (ht : (StoreL c b mb).To wr A (ws', log') w') : MW O w w' c b mb ws' log' K ∧ Keep (fun k => ¬ O k) wr w' := by
  obtain ⟨A', h1, h2, h3⟩ := ht
  have h3' : ∀ k, A' k → A k ∨ wr.heap.size ≤ k := h3
  refine ⟨⟨⟨A', h1, fun k e => (h3' k e).elim (hA k) (fun e => by have := h.own.size; omega), fun k q e => ?_, fun k e => ⟨fun e2 => (h3' k e2).elim (hO k e).1 (fun e2 => by have := (hO k e).2; omega), by have := (hO k e).2; have := h2.size; omega⟩⟩, fun k q e => ?_, h.no, h.df, h.own.trans h2 (fun k hl e => by have := hA k e; omega)⟩, h2.mono fun k _ e hO' => (hO k hO').1 e⟩
  · obtain ⟨z1, z2, z3⟩ := (h.lk k q e).1.lt3
    obtain ⟨y1, y2, y3⟩ := hn k q e
    exact ⟨fun e2 => (h3' _ e2).elim y1 (fun e2 => by omega), fun e2 => (h3' _ e2).elim y2 (fun e2 => by omega), fun e2 => (h3' _ e2).elim y3 (fun e2 => by omega)⟩
  · obtain ⟨y1, y2, y3⟩ := hn k q e
    exact ⟨(h.lk k q e).1.keep h2 y1 y2 y3, (h.lk k q e).2⟩
def MWTo (O : Nat → Prop) (w wr : World) (c : Cfg) (b mb : Nat) (ws : List Int) (log : List Acc) (K : Nat → Option LkB) (v : Value) (e : Ending) (w' : World) : Prop :=
  e = .returned v ∧ MW O w w' c b mb ws log K ∧ Keep (fun k => ¬ O k) wr w'
theorem mw_unlock (h : MW O w wr c b mb ws log K) (hok : c.ok) (t : Int) (t0 : 0 ≤ t) (t1 : t < 64) (e : Nat) (he : e < c.lk) (hx : ws[c.locks + 3 * e]? = some 1) (hl : log.length < 1000000000) :
    Calls Tryz.prog 16 #[.pointer (some ⟨b, 0, none⟩), .int .i64 t, .int .i64 e] wr (MWTo O w wr c b mb (ws.set (c.locks + 3 * e) 0) (log ++ [⟨t, (c.locks : Int) + 3 * (e : Int) + 0, 2, 1, 0, false⟩]) K (.int .i64 0)) := by
  obtain ⟨A, ⟨L, F, G, hsp⟩, hA, hn, hO⟩ := h.ex
  refine (kunlock_ok hsp hok t t0 t1 e he 1 (by decide) hx hl).mono ?_
  rintro e' w' ⟨rfl, hto⟩
  obtain ⟨q1, q2⟩ := h.turn hA hn hO hto
  exact ⟨rfl, q1, q2⟩
def MWNewTo (O : Nat → Prop) (w wr : World) (c : Cfg) (b mb : Nat) (ws : List Int) (log : List Acc) (K : Nat → Option LkB) (k : Nat) (s : KS) (e : Ending) (w' : World) : Prop :=
  ∃ q : LkB, e = .returned (.tuple #[LkB.ptr (some q), .int .i64 0]) ∧ q.s = s ∧ MW O w w' c b mb ws log (fup K k (some q)) ∧ Keep Nil wr w'
theorem mw_new (h : MW O w wr c b mb ws log K) (k : Nat) (hk : K k = none) (t lo hi tr : Int) (t0 : 0 ≤ t) (t1 : t < 64) (r0 : 0 ≤ tr) (r1 : tr ≤ 255) (hs : lo ≤ hi) :
    Calls Tryz.prog 12 #[.pointer (some ⟨b, 0, none⟩), .int .i64 t, .agg #[.int .u64 lo, .int .u64 hi], .int .i64 tr] wr (MWNewTo O w wr c b mb ws log K k (KS.init t lo hi tr)) := by
  obtain ⟨A, h1, h2, h3, h4⟩ := h.ex
  refine (knew_ok t lo hi tr t0 t1 r0 r1 hs).mono ?_
  rintro e w' ⟨l, sb, m, rfl, p4, p5, p6, p7, p8⟩
  have hlt : ∀ k, A k → k < wr.heap.size := fun k e => (StoreL c b mb).lt h1 k e
  have hg := h.ge
  have cs : ∀ j q, fup K k (some ⟨l, sb, m, KS.init t lo hi tr⟩) j = some q → (j = k ∧ q = ⟨l, sb, m, KS.init t lo hi tr⟩) ∨ (j ≠ k ∧ K j = some q) := fun j q e => by
    unfold fup at e
    split at e
    · rename_i e1; cases e; exact .inl ⟨e1, rfl⟩
    · rename_i e1; exact .inr ⟨e1, e⟩
  refine ⟨⟨l, sb, m, KS.init t lo hi tr⟩, rfl, rfl, ⟨⟨A, (StoreL c b mb).keep h1 p5 (fun _ _ h => h), h2, fun j q e => ?_, fun j e => ⟨(h4 j e).1, by have := (h4 j e).2; have := p5.size; omega⟩⟩, fun j q e => ?_, fun j q e => ?_, fun i j p q hij e1 e2 => ?_, h.own.trans p5 (fun _ _ h => h)⟩, p5⟩
  · rcases cs j q e with ⟨-, rfl⟩ | ⟨-, e⟩
    · exact ⟨fun e => by have : l < wr.heap.size := hlt _ e; omega, fun e => by have : sb < wr.heap.size := hlt _ e; omega, fun e => by have : m < wr.heap.size := hlt _ e; omega⟩
    · exact h3 j q e
  · rcases cs j q e with ⟨-, rfl⟩ | ⟨-, e⟩
    · exact ⟨p4, by show w.heap.size ≤ l; omega⟩
    · exact ⟨(h.lk j q e).1.quiet p5, (h.lk j q e).2⟩
  · rcases cs j q e with ⟨-, rfl⟩ | ⟨-, e⟩
    · exact ⟨fun e => by have : l < wr.heap.size := (h4 _ e).2; omega, fun e => by have : sb < wr.heap.size := (h4 _ e).2; omega, fun e => by have : m < wr.heap.size := (h4 _ e).2; omega⟩
    · exact h.no j q e
  · rcases cs i p e1 with ⟨r1, rfl⟩ | ⟨-, e1⟩ <;> rcases cs j q e2 with ⟨r2, rfl⟩ | ⟨-, e2⟩
    · omega
    · obtain ⟨z1, z2, z3⟩ := (h.lk j q e2).1.lt3
      exact ⟨by show l ≠ q.l; omega, by show l ≠ q.sb; omega, by show l ≠ q.m; omega⟩
    · obtain ⟨z1, z2, z3⟩ := (h.lk i p e1).1.lt3
      exact ⟨by show p.l ≠ l; omega, by show p.l ≠ sb; omega, by show p.l ≠ m; omega⟩
    · exact h.df i j p q hij e1 e2
theorem mw_step (h : MW O w wr c b mb ws log K) (k : Nat) (hk : K k = some q) (hok : c.ok) (hw : WdOk c ws) (hg : q.s.good c.lk) (hl : log.length + 1 < 1000000000) (x : Int) (hx : ws[q.s.at c.master c.locks]? = some x) :
    Calls Tryz.prog 13 #[LkB.ptr (some q)] wr (MWTo O w wr c b mb (q.s.ws c.master c.locks ws x) (log ++ [q.s.acc c.master c.locks x]) (fup K k (some ⟨q.l, q.sb, q.m, q.s.step c.lk x⟩)) (.tuple #[.int .u8 q.s.next, .bool ((q.s.step c.lk x).next == 0)])) := by
  obtain ⟨A, ⟨L, F, G, hsp⟩, h2, h3, h4⟩ := h.ex
  obtain ⟨n1, n2, n3⟩ := h3 k q hk
  obtain ⟨hlk, hge⟩ := h.lk k q hk
  have hin : KIn wr A c b mb L q.l q.sb q.m F G ws log q.s := ⟨hsp, hok, hlk, n1, n2, n3, hw, hg.t0.1, hg.t0.2, by omega⟩
  refine (kstep_ok hin hg hl x hx).mono ?_
  rintro e w' ⟨rfl, A', q1, q2, q3, q4⟩
  have q4' : ∀ k, A' k → A k ∨ wr.heap.size ≤ k := q4
  have cs : ∀ j p, fup K k (some ⟨q.l, q.sb, q.m, q.s.step c.lk x⟩) j = some p → (j = k ∧ p = ⟨q.l, q.sb, q.m, q.s.step c.lk x⟩) ∨ (j ≠ k ∧ K j = some p) := fun j p e => by
    unfold fup at e
    split at e
    · rename_i e1; cases e; exact .inl ⟨e1, rfl⟩
    · rename_i e1; exact .inr ⟨e1, e⟩
  have nA : ∀ j p, K j = some p → ¬ A' p.l ∧ ¬ A' p.sb ∧ ¬ A' p.m := fun j p e => by
    obtain ⟨z1, z2, z3⟩ := (h.lk j p e).1.lt3
    obtain ⟨y1, y2, y3⟩ := h3 j p e
    exact ⟨fun e2 => (q4' _ e2).elim y1 (fun e2 => by omega), fun e2 => (q4' _ e2).elim y2 (fun e2 => by omega), fun e2 => (q4' _ e2).elim y3 (fun e2 => by omega)⟩
  refine ⟨rfl, ⟨⟨A', q1, fun j e => (q4' j e).elim (h2 j) (fun e => by have := h.ge; omega), fun j p e => ?_, fun j e => ⟨fun e2 => (q4' j e2).elim (h4 j e).1 (fun e2 => by have := (h4 j e).2; omega), by have := (h4 j e).2; have := q3.size; omega⟩⟩, fun j p e => ?_, fun j p e => ?_, fun i j p p' hij e1 e2 => ?_, h.own.trans q3 (fun j hlt e => by rcases e with e | e; have := h2 j e; omega; omega)⟩, q3.mono fun j _ e hO => ?_⟩
  · rcases cs j p e with ⟨-, rfl⟩ | ⟨-, e⟩
    · exact nA k q hk
    · exact nA j p e
  · rcases cs j p e with ⟨-, rfl⟩ | ⟨hj, e⟩
    · exact ⟨q2, hge⟩
    · obtain ⟨y1, y2, y3⟩ := h3 j p e
      obtain ⟨x1, x2, x3⟩ := h.df k j q p (fun e => hj e.symm) hk e
      exact ⟨(h.lk j p e).1.keep q3 (fun e => e.elim y1 (fun e => x1 e.symm)) (fun e => e.elim y2 (fun e => x2 e.symm)) (fun e => e.elim y3 (fun e => x3 e.symm)), (h.lk j p e).2⟩
  · rcases cs j p e with ⟨-, rfl⟩ | ⟨-, e⟩
    · exact h.no k q hk
    · exact h.no j p e
  · rcases cs i p e1 with ⟨r1, rfl⟩ | ⟨r1, e1⟩ <;> rcases cs j p' e2 with ⟨r2, rfl⟩ | ⟨r2, e2⟩
    · omega
    · exact h.df k j q p' (by omega) hk e2
    · exact h.df i k p q (by omega) e1 hk
    · exact h.df i j p p' hij e1 e2
  · rcases e with e | e
    · exact (h4 j hO).1 e
    · subst e; exact (h.no k q hk).1 hO
end
/-- The threads, their lockings and the store. -/
structure AS (O : Nat → Prop) (w wr : World) (c : Cfg) (b mb : Nat) (tr : Int) (f : Nat) (K : Nat → Option LkB) (own : Nat → Spn) (en : Nat → Int) (n : Nat) : Prop where
  ex : ∃ ws log tb hd, MW O w wr c b mb ws log K ∧ WdOk c ws ∧ RInv c.lk c.master c.locks tr (f : Int) ws (fun j => (K j).map LkB.s) own en tb hd ∧ log.length ≤ f ∧ cntS tb = n
section
variable {w wr w' : World} {O : Nat → Prop} {c : Cfg} {b mb k n f : Nat} {tr : Int} {K : Nat → Option LkB} {own : Nat → Spn} {en : Nat → Int} {q : LkB}
theorem AS.quiet (h : AS O w wr c b mb tr f K own en n) (hk : Keep Nil wr w') : AS O w w' c b mb tr f K own en n := by
  obtain ⟨ws, log, tb, hd, h1, h2⟩ := h.ex
  exact ⟨ws, log, tb, hd, h1.quiet hk, h2⟩
theorem AS.own_ (h : AS O w wr c b mb tr f K own en n) : Keep Nil w wr := by
  obtain ⟨ws, log, tb, hd, h1, h2⟩ := h.ex
  exact h1.own
theorem AS.other (h : AS O w wr c b mb tr f K own en n) (hk : Keep O wr w') (hO : ∀ k, O k → w.heap.size ≤ k) : AS O w w' c b mb tr f K own en n := by
  obtain ⟨ws, log, tb, hd, h1, h2⟩ := h.ex
  exact ⟨ws, log, tb, hd, h1.other hk hO, h2⟩
theorem AS.le (h : AS O w wr c b mb tr f K own en n) (hok : c.ok) : n ≤ 16 := by
  obtain ⟨ws, log, tb, hd, h1, h2, h3, h4, h5⟩ := h.ex
  have := List.length_filterMap_le id tb
  have h6 := h3.tab.len
  have := hok.lk2
  have h7 : (tb.filterMap id).length = n := h5
  omega
theorem AS.nl (h : AS O w wr c b mb tr f K own en n) (q : LkB) (hk : K k = some q) : LkAt wr q.l q.sb q.m b q.s := by
  obtain ⟨ws, log, tb, hd, h1, h2⟩ := h.ex
  exact (h1.lk k q hk).1
theorem AS.start {ws : List Int} (h : SW w wr c b mb ws []) (hok : c.ok) (hws : ws = ints c.init) (hk : Keep Nil wr w') (hO : ∀ k, O k → wr.heap.size ≤ k ∧ k < w'.heap.size) (own : Nat → Spn) : AS O w w' c b mb tr 0 (fun _ => none) own (fun _ => -1) 0 := by
  subst hws
  obtain ⟨-, -, hq9, hq0, hq1, hq2, hq3, hq4, hq5⟩ := plc_lt c
  have hrep : ∀ (i : Nat) (a : Spn), ¬ (List.replicate c.lk (none : Option Spn))[i]? = some (some a) := fun i a e => by
    rw [List.getElem?_replicate] at e
    split at e <;> cases e
  refine ⟨_, _, List.replicate c.lk none, none, MW.start h hk hO, WdOk.init hok, ⟨tab_init hok, fun i j a b _ e => absurd e (hrep i a), init_zero c (by omega), fun k s e => (by cases e), fun k j e => (by cases e), fun k k' j e => by cases e⟩, Nat.le_refl _, ?_⟩
  unfold cntS
  rw [List.filterMap_replicate_of_none rfl]
  rfl
def ASTo (O : Nat → Prop) (w wr : World) (c : Cfg) (b mb : Nat) (tr : Int) (f : Nat) (K : Nat → Option LkB) (own : Nat → Spn) (en : Nat → Int) (n : Nat) (v : Value) (e : Ending) (w' : World) : Prop :=
  ∃ n', n = n' + 1 ∧ e = .returned v ∧ AS O w w' c b mb tr f K own en n' ∧ Keep (fun k => ¬ O k) wr w'
theorem as_unlock (h : AS O w wr c b mb tr f K own en n) (hok : c.ok) (k : Nat) (hk : k < 64) (e : Nat) (he : en k = e) (hf : f < 100000) :
    Calls Tryz.prog 16 #[.pointer (some ⟨b, 0, none⟩), .int .i64 k, .int .i64 e] wr (ASTo O w wr c b mb tr (f + 1) (fup K k none) own (fup en k (-1)) n (.int .i64 0)) := by
  obtain ⟨ws, log, tb, hd, h1, h2, h3, h4, h5⟩ := h.ex
  obtain ⟨d1, d2, d3, d4⟩ := h3.drop (lk_lt c) e he
  refine (mw_unlock h1 hok k (by omega) (by omega) e d2 d3 (by omega)).mono ?_
  rintro e' w' ⟨rfl, hm, hkk⟩
  have hcn := cnt_drop d1
  refine ⟨cntS (tb.set e none), by omega, rfl, ⟨_, _, tb.set e none, hd, hm.drop k, h2.set _ (by decide) (by decide), ?_, by rw [List.length_append, List.length_singleton]; omega, rfl⟩, hkk⟩
  rw [fup_map, Int.natCast_add]
  exact d4
def ASNewTo (O : Nat → Prop) (w wr : World) (c : Cfg) (b mb : Nat) (tr : Int) (f : Nat) (K : Nat → Option LkB) (own : Nat → Spn) (en : Nat → Int) (n k : Nat) (e : Ending) (w' : World) : Prop :=
  ∃ q : LkB, e = .returned (.tuple #[LkB.ptr (some q), .int .i64 0]) ∧ AS O w w' c b mb tr f (fup K k (some q)) own en n ∧ Keep Nil wr w'
theorem as_new (h : AS O w wr c b mb tr f K own en n) (hok : c.ok) (k : Nat) (hk : k < 64) (hn : K k = none) (he : en k < 0) (x : Spn) (hx : x.1 ≤ x.2) (x0 : 0 ≤ x.1 ∧ x.1 < 18446744073709551616) (x1 : 0 ≤ x.2 ∧ x.2 < 18446744073709551616) (r0 : 0 ≤ tr) (r1 : tr ≤ 255) :
    Calls Tryz.prog 12 #[.pointer (some ⟨b, 0, none⟩), .int .i64 k, .agg #[.int .u64 x.1, .int .u64 x.2], .int .i64 tr] wr (ASNewTo O w wr c b mb tr f K (fup own k x) en n k) := by
  obtain ⟨ws, log, tb, hd, h1, h2, h3, h4, h5⟩ := h.ex
  refine (mw_new h1 k hn k x.1 x.2 tr (by omega) (by omega) r0 r1 hx).mono ?_
  rintro e' w' ⟨q, rfl, hq, hm, hkk⟩
  refine ⟨q, rfl, ⟨ws, log, tb, hd, hm, h2, ?_, h4, h5⟩, hkk⟩
  rw [fup_map]
  have := h3.fresh (k := k) hok.lk1 (by rw [hn]; rfl) he x hk x0 x1 (by omega)
  rw [← hq] at this
  exact this
/-- What comes of a thread's step. -/
def ASStepTo (O : Nat → Prop) (w wr : World) (c : Cfg) (b mb : Nat) (tr : Int) (f : Nat) (K : Nat → Option LkB) (own : Nat → Spn) (en : Nat → Int) (n k : Nat) (q : LkB) (e : Ending) (w' : World) : Prop :=
  ∃ (s' : KS) (n' : Nat), e = .returned (.tuple #[.int .u8 q.s.next, .bool (s'.next == 0)]) ∧ Keep (fun k => ¬ O k) wr w' ∧ n' = n + (if q.s.next = 42 then 1 else 0) ∧ LkAt w' q.l q.sb q.m b s' ∧
    ((s'.next ≠ 0 ∧ AS O w w' c b mb tr f (fup K k (some ⟨q.l, q.sb, q.m, s'⟩)) own en n')
    ∨ (s'.next = 0 ∧ s'.res = (0, s'.fails, 11) ∧ AS O w w' c b mb tr f (fup K k none) own en n')
    ∨ ∃ j : Nat, s'.next = 0 ∧ s'.res = ((j : Int), s'.fails, 0) ∧ AS O w w' c b mb tr f (fup K k (some ⟨q.l, q.sb, q.m, s'⟩)) own (fup en k j) n')
theorem as_step (h : AS O w wr c b mb tr f K own en n) (hok : c.ok) (k : Nat) (hk : K k = some q) (he : en k < 0) (hf : f < 100000) :
    Calls Tryz.prog 13 #[LkB.ptr (some q)] wr (ASStepTo O w wr c b mb tr (f + 1) K own en n k q) := by
  obtain ⟨ws, log, tb, hd, h1, h2, h3, h4, h5⟩ := h.ex
  have hkm : (fun j => (K j).map LkB.s) k = some q.s := by show (K k).map LkB.s = _; rw [hk]; rfl
  have hg := (h3.th k q.s hkm he).good
  obtain ⟨x, hx, -, -⟩ := h2.at (KS.at_lt hg)
  obtain ⟨tb', hcn, hd', hout⟩ := h3.step hok.lk1 (lk_lt c) (by omega) hkm he x hx
  refine (mw_step h1 k hk hok h2 hg (by omega) x hx).mono ?_
  rintro e' w' ⟨rfl, hm, hkk⟩
  have hlk := (hm.lk k _ fup_me).1
  refine ⟨q.s.step c.lk x, cntS tb', rfl, hkk, by rw [hcn, h5], hlk, ?_⟩
  rcases hout with ⟨q1, q2⟩ | ⟨q1, q2, q3⟩ | ⟨j, q1, q2, q3⟩
  · refine .inl ⟨q1, ⟨_, _, tb', hd', hm, KS.ws_ok h2 hg x, ?_, by rw [List.length_append, List.length_singleton]; omega, rfl⟩⟩
    rw [fup_map, Int.natCast_add]
    exact q2
  · have hm2 := hm.drop k
    have e : fup (fup K k (some ⟨q.l, q.sb, q.m, q.s.step c.lk x⟩)) k none = fup K k none := by
      funext j; unfold fup; split <;> rfl
    rw [e] at hm2
    refine .inr (.inl ⟨q1, q2, ⟨_, _, tb', hd', hm2, KS.ws_ok h2 hg x, ?_, by rw [List.length_append, List.length_singleton]; omega, rfl⟩⟩)
    rw [fup_map, Int.natCast_add]
    exact q3
  · refine .inr (.inr ⟨j, q1, q2, ⟨_, _, tb', hd', hm, KS.ws_ok h2 hg x, ?_, by rw [List.length_append, List.length_singleton]; omega, rfl⟩⟩)
    rw [fup_map, Int.natCast_add]
    exact q3
theorem as_held (h : AS O w wr c b mb tr f K own en n) (hok : c.ok) : ∃ hl : List Spn, Calls Tryz.prog 17 #[.pointer (some ⟨b, 0, none⟩)] wr (HeldTo wr hl) ∧ hl.length = n ∧ (∀ (i j : Nat) (a b : Spn), i ≠ j → hl[i]? = some a → hl[j]? = some b → ovl a b = false) ∧ ∀ k, 0 ≤ en k → own k ∈ hl := by
  obtain ⟨ws, log, tb, hd, h1, h2, h3, h4, h5⟩ := h.ex
  obtain ⟨A, ⟨L, F, G, hsp⟩, hA, -, -⟩ := h1.ex
  have hh := held_ok hsp hok (Nat.le_of_eq h2.len.symm)
  rw [held_all h3.tab] at hh
  refine ⟨_, hh, h5, fun i j a b hij ha hb => ?_, fun k hk => ?_⟩
  · obtain ⟨i', j', q1, q2, q3⟩ := used_at hij ha hb
    exact h3.ap i' j' a b q1 q2 q3
  · obtain ⟨i, -, hi⟩ := h3.cl k (en k) (clm_held hk)
    rw [List.mem_filterMap]
    exact ⟨some (own k), List.mem_of_getElem? hi, rfl⟩
theorem as_apart (h : AS O w wr c b mb tr f K own en n) (hok : c.ok) (nn : Int) (hn : nn = n) : Calls Tryz.prog 30 #[.pointer (some ⟨b, 0, none⟩), .int .i64 nn] wr fun e w' => e = .returned (.bool true) ∧ Keep Nil wr w' := by
  obtain ⟨hl, h1, h2, h3, h4⟩ := as_held h hok
  exact apart_ok hl nn h1 (by rw [h2]; exact hn) (by have := h.le hok; omega) h3
theorem as_listed (h : AS O w wr c b mb tr f K own en n) (hok : c.ok) (bo be : Nat) (ho : wr.heap[bo]? = some (.cells (spnCells ((List.range 8).map own)).toArray 28 (0, 0))) (he : wr.heap[be]? = some (.cells (((List.range 8).map en).map (Value.int .i64)).toArray 3 (0, 0))) :
    Calls Tryz.prog 31 #[.pointer (some ⟨b, 0, none⟩), .slice (some ⟨bo, 0, none⟩) 8 8, .slice (some ⟨be, 0, none⟩) 8 8] wr fun e w' => e = .returned (.bool true) ∧ Keep Nil wr w' := by
  obtain ⟨hl, h1, h2, h3, h4⟩ := as_held h hok
  refine listed_ok hl _ _ bo be 8 h1 (by have := h.le hok; omega) (by simp) (by simp) (by decide) ho he fun k e x hk hx => ?_
  have hlt : k < 8 := by have := (List.getElem?_eq_some_iff.1 hk).1; simpa using this
  rw [range_at _ hlt] at hk hx
  cases hk
  cases hx
  by_cases h0 : en k < 0
  · exact .inl h0
  · exact .inr (h4 k (by omega))
end
end Go.Proofs.YtmafdjhjmnghcaaGreat
