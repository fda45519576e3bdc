/- RangesQuiet: the store with its table; rows of ranges and Booleans. -/
import Derived.Test.YtmafdjhjmnghcaaGreatRngLawO
import Derived.Test.YtmafdjhjmnghcaaGreatRngQP
set_option linter.unusedVariables false
set_option linter.unusedSimpArgs false
namespace Go.Lf
open Go.RowKit
theorem KS.Reach.runs {lk : Int} {M T n : Nat} {s s' : KS} {ws ws' : List Int} (h : KS.Reach lk M T n s ws s' ws') (h0 : s'.next = 0) : s.runs lk M T n ws = some (n, s', ws') := by
  induction h with
  | zero s ws => rw [KS.runs, if_pos h0]
  | step x hn hx h ih =>
    have := ih h0
    rw [KS.runs, if_neg hn, hx, Option.getD_some, this]
    rfl
/-- api.Span as data. -/
structure SpanV where
  lo : Int
  hi : Int
def SpanV.cells (x : SpanV) : List Value := [.int .u64 x.lo, .int .u64 x.hi]
def SpanV.wf (x : SpanV) : Prop := (Lit.int .u64 x.lo).wf = true ∧ (Lit.int .u64 x.hi).wf = true
def spanCells (l : List SpanV) : List Value := l.flatMap SpanV.cells
theorem made_two (z : Value) (n : Nat) : madeCells #[z, z] n = (List.replicate n z).toArray := by
  unfold madeCells
  apply Array.ext
  · simp
  · intro i h1 h2
    have : i % 2 = 0 ∨ i % 2 = 1 := by omega
    simp only [Array.getElem_map, Array.getElem_range, List.getElem_toArray, List.getElem_replicate]
    rcases this with h | h
    · show #[z, z][i % 2]! = z; rw [h]; rfl
    · show #[z, z][i % 2]! = z; rw [h]; rfl
theorem spn_rep (n : Nat) : spnCells (List.replicate n (0, 0)) = List.replicate (n * 2) (Value.int .u64 0) := by
  induction n with
  | zero => rfl
  | succ n ih =>
    rw [List.replicate_succ, show (n + 1) * 2 = n * 2 + 1 + 1 by omega, List.replicate_succ, List.replicate_succ, ← ih]
    rfl
theorem spn_len (l : List Spn) : (spnCells l).length = l.length * 2 := by
  induction l with
  | nil => rfl
  | cons x l ih => simp only [spnCells, List.flatMap_cons, List.length_append, List.length_cons, List.length_nil] at ih ⊢; rw [ih]; omega
theorem spn_set {l : List Spn} {k : Nat} {y : Spn} (h : l[k]? = some y) (x : Spn) : ((spnCells l).set (k * 2) (.int .u64 x.1)).set (k * 2 + 1) (.int .u64 x.2) = spnCells (l.set k x) := by
  induction l generalizing k with
  | nil => cases h
  | cons a l ih =>
    cases k with
    | zero => rfl
    | succ k =>
      have h1 := ih (k := k) (by simpa using h)
      show ((spnCells (a :: l)).set ((k + 1) * 2) _).set ((k + 1) * 2 + 1) _ = spnCells (a :: l.set k x)
      rw [show (k + 1) * 2 = k * 2 + 1 + 1 by omega]
      show Value.int .u64 a.1 :: Value.int .u64 a.2 :: ((spnCells l).set (k * 2) _).set (k * 2 + 1) _ = Value.int .u64 a.1 :: Value.int .u64 a.2 :: spnCells (l.set k x)
      rw [h1]
end Go.Lf
namespace Go.Proofs.YtmafdjhjmnghcaaGreat
open Go.RowKit Go.Lf
theorem make_span (n : Nat) (hn : n ≤ 1000000) (w : World) : (Instr.makeSlice 35 (.int .i64 n) (.int .i64 n)).run Tryz.prog w = .ok (.slice (some ⟨w.heap.size, 0, none⟩) n n) (w.alloc (.cells (spnCells (List.replicate n (0, 0))).toArray 28)) := by
  obtain ⟨i, hi, hz, hsize, hby⟩ := info_parts infoSpan
  have := run_make (P := Tryz.prog) w 35 28 i (.agg #[.int .u64 0, .int .u64 0]) Tryz.underlying35 hi hz .i64 .i64 n n (by omega) (Int.le_refl _) (by rw [hby]; omega) (by omega)
  rw [this, hsize, spn_rep, ← made_two]
  simp [Value.cells]
set_option maxHeartbeats 2000000 in
theorem overlap_ok {w : World} (a b : Spn) (q : Bool) (hq : q = ovl a b) : Calls Tryz.prog 32 #[.agg #[.int .u64 a.1, .int .u64 a.2], .agg #[.int .u64 b.1, .int .u64 b.2]] w fun e w' => e = .returned (.bool q) ∧ Keep Nil w w' := by
  subst hq
  unfold ovl
  by_cases h1 : a.1 ≤ b.2
  · by_cases h2 : b.1 ≤ a.2
    · have d1 : decide (a.1 ≤ b.2) = true := decide_eq_true h1
      have d2 : decide (b.1 ≤ a.2) = true := decide_eq_true h2
      rw [d1, d2]
      clear h1 h2
      go_enter Tryz.func32, Tryz.ntmps32
      go_wp2
      go_ret
      exact ⟨rfl, ((Keep.refl Nil w).alloc _).alloc _⟩
    · have d1 : decide (a.1 ≤ b.2) = true := decide_eq_true h1
      have d2 : decide (b.1 ≤ a.2) = false := decide_eq_false h2
      rw [d1, d2]
      clear h1 h2
      go_enter Tryz.func32, Tryz.ntmps32
      go_wp2
      go_ret
      exact ⟨rfl, ((Keep.refl Nil w).alloc _).alloc _⟩
  · have d1 : decide (a.1 ≤ b.2) = false := decide_eq_false h1
    rw [d1]
    clear h1
    go_enter Tryz.func32, Tryz.ntmps32
    go_wp2
    go_ret
    exact ⟨rfl, ((Keep.refl Nil w).alloc _).alloc _⟩
/-- A store with a table of ranges, none of its locks under way. -/
structure QS (O : Nat → Prop) (w wr : World) (c : Cfg) (b mb : Nat) (tb : List (Option Spn)) (n : Nat) : Prop where
  ex : ∃ ws log, SWO O w wr c b mb ws log ∧ WdOk c ws ∧ TabE c.lk c.locks ws tb ∧ ws[c.master]? = some 0 ∧ log.length ≤ n
section
variable {w wr w' : World} {O : Nat → Prop} {c : Cfg} {b mb n : Nat} {tb : List (Option Spn)}
theorem QS.quiet (h : QS O w wr c b mb tb n) (hk : Keep Nil wr w') : QS O w w' c b mb tb n := by
  obtain ⟨ws, log, h1, h2⟩ := h.ex
  exact ⟨ws, log, h1.quiet hk, h2⟩
theorem QS.own (h : QS O w wr c b mb tb n) : Keep Nil w wr := by
  obtain ⟨ws, log, h1, h2⟩ := h.ex
  exact h1.own
theorem QS.more (h : QS O w wr c b mb tb n) {m : Nat} (hm : n ≤ m) : QS O w wr c b mb tb m := by
  obtain ⟨ws, log, h1, h2, h3, h4, h5⟩ := h.ex
  exact ⟨ws, log, h1, h2, h3, h4, by omega⟩
theorem QS.other (h : QS O w wr c b mb tb n) {S O' : Nat → Prop} (hk : Keep S wr w') (hS : ∀ k, S k → O k ∨ wr.heap.size ≤ k) (hO : ∀ k, O' k → O k ∨ (wr.heap.size ≤ k ∧ k < w'.heap.size)) (hb : ∀ k, S k → w.heap.size ≤ k) : QS O' w w' c b mb tb n := by
  obtain ⟨ws, log, h1, h2⟩ := h.ex
  exact ⟨ws, log, h1.other hk hS hO hb, h2⟩
theorem lk_lt (c : Cfg) : c.master < c.locks := by show c.master < c.master + 1; omega
theorem tab_init {c : Cfg} (hok : c.ok) : TabE c.lk c.locks (ints c.init) (List.replicate c.lk none) := by
  obtain ⟨-, -, -, hq0, hq1, hq2, hq3, hq4, hq5⟩ := plc_lt c
  refine ⟨List.length_replicate, fun k hk => ?_, fun k sp hk => ?_, by rw [init_length]; have := c.le1; have := c.le2; have := c.le3; omega⟩
  · have := (List.getElem?_eq_some_iff.1 hk).1
    rw [List.length_replicate] at this
    exact init_zero c (by omega)
  · rw [List.getElem?_replicate] at hk
    split at hk <;> cases hk
theorem qs_init (h : SW w wr c b mb (ints c.init) []) (hok : c.ok) : QS Nil w wr c b mb (List.replicate c.lk none) 0 := by
  obtain ⟨⟨A, h1, h2⟩, h3⟩ := h
  obtain ⟨-, -, hq9, hq0, hq1, hq2, hq3, hq4, hq5⟩ := plc_lt c
  exact ⟨_, _, ⟨⟨A, h1, h2, fun k e => e.elim⟩, h3⟩, WdOk.init hok, tab_init hok, init_zero c (by omega), Nat.le_refl _⟩
theorem qs_unlock0 (h : QS O w wr c b mb tb n) (hok : c.ok) (k : Nat) (hk : tb[k]? = some none) : Calls Tryz.prog 16 #[.pointer (some ⟨b, 0, none⟩), .int .i64 3, .int .i64 k] wr fun e w' => e = .returned (.int .i64 8) ∧ Keep Nil wr w' := by
  obtain ⟨ws, log, ⟨⟨A, ⟨L, F, G, hsp⟩, hA, hO⟩, hown⟩, hw, ht, hm, hl⟩ := h.ex
  have hkl : k < c.lk := by have := (List.getElem?_eq_some_iff.1 hk).1; rw [ht.len] at this; exact this
  exact kunlock_state hsp hok 3 (by decide) (by decide) k hkl (ht.no k hk)
def QSTo (O : Nat → Prop) (w wr : World) (c : Cfg) (b mb : Nat) (tb : List (Option Spn)) (n : Nat) (v : Value) (e : Ending) (w' : World) : Prop := e = .returned v ∧ QS O w w' c b mb tb n ∧ Keep (fun k => ¬ O k) wr w'
theorem qs_unlock1 (h : QS O w wr c b mb tb n) (hok : c.ok) (k : Nat) (sp : Spn) (hk : tb[k]? = some (some sp)) (hn : n < 100000000) : Calls Tryz.prog 16 #[.pointer (some ⟨b, 0, none⟩), .int .i64 3, .int .i64 k] wr (QSTo O w wr c b mb (tb.set k none) (n + 1) (.int .i64 0)) := by
  obtain ⟨ws, log, ⟨⟨A, ⟨L, F, G, hsp⟩, hA, hO⟩, hown⟩, hw, ht, hm, hl⟩ := h.ex
  have hkl : k < c.lk := by have := (List.getElem?_eq_some_iff.1 hk).1; rw [ht.len] at this; exact this
  refine (kunlock_ok hsp hok 3 (by decide) (by decide) k hkl 1 (by decide) (ht.yes k sp hk).1 (by show log.length < _; omega)).mono ?_
  rintro e w' ⟨rfl, hto⟩
  obtain ⟨q1, q2⟩ := SWO.turn hA hO hown hto
  have := lk_lt c
  exact ⟨rfl, ⟨_, _, q1, hw.set _ (by decide) (by decide), ht.drop hkl, set_at hm (by omega), by simp; omega⟩, q2⟩
theorem qs_bad (h : QS O w wr c b mb tb n) (hok : c.ok) (x : Spn) (hx : x.1 ≤ x.2) (x0 : 0 ≤ x.1 ∧ x.1 < 18446744073709551616) (x1 : 0 ≤ x.2 ∧ x.2 < 18446744073709551616) (j : Nat) (hj : j ≤ 5) (hn : n < 100000000) (hb : (scanP x 0 (-1) tb).2.2 = true ∨ (scanP x 0 (-1) tb).2.1 < 0) (m : Nat) (hm : m = (scanP x 0 (-1) tb).1) (most nn : Int) (hmo : most = (j + 1 : Nat)) (hnn : nn = ((j + 1) * (m + 2) : Nat)) :
    Calls Tryz.prog 20 #[.pointer (some ⟨b, 0, none⟩), .int .i64 2, .agg #[.int .u64 x.1, .int .u64 x.2], .int .i64 most] wr (QSTo O w wr c b mb tb (n + (j + 1) * (m + 2)) (.tuple #[.int .i64 0, .int .i64 nn, .int .i64 11])) := by
  obtain ⟨ws, log, hs, hw, ht, hm0, hl⟩ := h.ex
  subst hm
  have hsc := scan_snoc (x := x) (tb := tb) tb 0 (-1)
  have htl := ht.len
  have hlk := hok.lk2
  have hn2 : (j + 1) * ((scanP x 0 (-1) tb).1 + 2) ≤ 6 * 50 := Nat.mul_le_mul (by omega) (by omega)
  obtain ⟨s', r, hz, he⟩ := quiet_bad ht hok.lk1 (lk_lt c) hm0 x hb j (KS.init 2 x.1 x.2 most) rfl rfl (by show (0 : Int) + ((j + 1 : Nat) : Int) = most; omega)
  refine (locko_ok hs hok hw 2 x.1 x.2 most (by decide) (by decide) (by omega) (by omega) hx x0 x1 (f := (j + 1) * ((scanP x 0 (-1) tb).1 + 2)) (Nat.le_trans hn2 (by decide)) (r.runs hz) (by omega) 0 s'.fails 11 (by unfold KS.res; rw [if_neg (by simp [hz]), if_pos (by rw [he]; decide), he]) nn hnn).mono ?_
  rintro e w' ⟨rfl, log', hl', hs', hw', hk'⟩
  exact ⟨rfl, ⟨ws, log', hs', hw', ht, hm0, by omega⟩, hk'⟩
def QGoodTo (O : Nat → Prop) (w wr : World) (c : Cfg) (b mb : Nat) (tb : List (Option Spn)) (x : Spn) (n : Nat) (f : Nat) (nn : Int) (e : Ending) (w' : World) : Prop := e = .returned (.tuple #[.int .i64 f, .int .i64 nn, .int .i64 0]) ∧ QS O w w' c b mb (tb.set f (some x)) n ∧ Keep (fun k => ¬ O k) wr w'
theorem qs_free (h : QS O w wr c b mb tb n) (x : Spn) (hb : ¬ ((scanP x 0 (-1) tb).2.2 = true ∨ (scanP x 0 (-1) tb).2.1 < 0)) : ∃ f : Nat, (scanP x 0 (-1) tb).2.1 = f ∧ tb[f]? = some none := by
  rcases scan_free (x := x) (tb := tb) tb 0 (-1) rfl (.inl (by decide)) with h | h
  · exact absurd (.inr h) hb
  · exact h
theorem qs_good (h : QS O w wr c b mb tb n) (hok : c.ok) (x : Spn) (hx : x.1 ≤ x.2) (x0 : 0 ≤ x.1 ∧ x.1 < 18446744073709551616) (x1 : 0 ≤ x.2 ∧ x.2 < 18446744073709551616) (most : Int) (m0 : 0 ≤ most) (m1 : most ≤ 255) (hn : n < 100000000) (hb : ¬ ((scanP x 0 (-1) tb).2.2 = true ∨ (scanP x 0 (-1) tb).2.1 < 0)) (m f : Nat) (hm : m = (scanP x 0 (-1) tb).1) (hf : (scanP x 0 (-1) tb).2.1 = f) (nn : Int) (hnn : nn = (m + 5 : Nat)) :
    Calls Tryz.prog 20 #[.pointer (some ⟨b, 0, none⟩), .int .i64 2, .agg #[.int .u64 x.1, .int .u64 x.2], .int .i64 most] wr (QGoodTo O w wr c b mb tb x (n + (m + 5)) f nn) := by
  obtain ⟨ws, log, hs, hw, ht, hm0, hl⟩ := h.ex
  subst hm
  have hsc := scan_snoc (x := x) (tb := tb) tb 0 (-1)
  have htl := ht.len
  have hlk := hok.lk2
  obtain ⟨f', s', ws', hf', hfn, r, hz, he, hfr, hfl, ht', hm'⟩ := quiet_good ht hok.lk1 (lk_lt c) hm0 (KS.init 2 x.1 x.2 most) rfl hb
  have hff : f' = f := by
    have : ((f' : Nat) : Int) = f := by rw [← hf', ← hf]; rfl
    omega
  subst hff
  refine (locko_ok hs hok hw 2 x.1 x.2 most (by decide) (by decide) m0 m1 hx x0 x1 (f := (scanP x 0 (-1) tb).1 + 5) (by show (scanP x 0 (-1) tb).1 + 5 ≤ 2999; omega) (r.runs hz) (by omega) f' s'.fails 0 (by unfold KS.res; rw [if_neg (by simp [hz]), if_neg (by rw [he]; simp [KS.init]), hfr]) nn hnn).mono ?_
  rintro e w' ⟨rfl, log', hl', hs', hw', hk'⟩
  exact ⟨rfl, ⟨ws', log', hs', hw', ht', hm', by have hl2 : log'.length ≤ log.length + ((scanP x 0 (-1) tb).1 + 5) := hl'; omega⟩, hk'⟩
theorem qs_peek (h : QS O w wr c b mb tb n) : Calls Tryz.prog 26 #[.pointer (some ⟨mb, 0, none⟩), .int .i64 (c.master : Int)] wr fun e w' => e = .returned (.tuple #[.int .u64 0, .bool true]) ∧ wr = w' := by
  obtain ⟨ws, log, hs, hw, ht, hm0, hl⟩ := h.ex
  exact swk_peek hs.sw _ 0 (by omega) (by rw [Int.toNat_natCast]; exact hm0)
theorem QS.sw (h : QS O w wr c b mb tb n) : ∃ ws log, SW w wr c b mb ws log := by
  obtain ⟨ws, log, hs, -⟩ := h.ex
  exact ⟨ws, log, hs.sw⟩
theorem QS.len (h : QS O w wr c b mb tb n) : tb.length = c.lk := by
  obtain ⟨ws, log, hs, hw, ht, hm0, hl⟩ := h.ex
  exact ht.len
end
end Go.Proofs.YtmafdjhjmnghcaaGreat
