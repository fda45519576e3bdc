/- read: the plain law of ReadFails. No program is named here. -/
import Derived.Test.YtmafdjhjmnghcaaGreatFieldP
import Derived.Test.YtmafdjhjmnghcaaGreatBase
import Derived.Test.YtmafdjhjmnghcaaGreatOpenCp
import Derived.Test.YtmafdjhjmnghcaaGreatRefLayO
import Derived.Test.YtmafdjhjmnghcaaGreatStoreSw
import Derived.Deep.RegionHeld3
import Derived.Test.YtmafdjhjmnghcaaGreatSmall
import Derived.Deep.DeepCutAuto
import Derived.Test.YtmafdjhjmnghcaaGreatReadSays
import Derived.Test.YtmafdjhjmnghcaaGreatWdOk
import Derived.Test.YtmafdjhjmnghcaaGreatReadNm0
set_option linter.unusedVariables false
set_option linter.unusedSimpArgs false
namespace Go.Lf
open Go.RowKit
/-- leapfroglaw25.Set as data. -/
structure SetV where
  at_ : Int
  what : Int
  entry : Int
  v : Int
def SetV.cells (x : SetV) : List Value := [.int .i64 x.at_, .int .u8 x.what, .int .i64 x.entry, .int .u64 x.v]
def SetV.wf (x : SetV) : Prop := (Lit.int .i64 x.at_).wf = true ∧ (Lit.int .u8 x.what).wf = true ∧ (Lit.int .i64 x.entry).wf = true ∧ (Lit.int .u64 x.v).wf = true
def setCells (l : List SetV) : List Value := l.flatMap SetV.cells
theorem SetV.wf_at {x : SetV} (h : x.wf) : -9223372036854775808 ≤ x.at_ ∧ x.at_ < 9223372036854775808 := by
  obtain ⟨h1, -, -, -⟩ := h
  simp [Lit.wf, IntKind.min, IntKind.max, IntKind.signed, IntKind.bits] at h1
  omega
theorem SetV.wf_what {x : SetV} (h : x.wf) : 0 ≤ x.what ∧ x.what < 256 := by
  obtain ⟨-, h1, -, -⟩ := h
  simp [Lit.wf, IntKind.min, IntKind.max, IntKind.signed, IntKind.bits] at h1
  omega
theorem SetV.wf_entry {x : SetV} (h : x.wf) : -9223372036854775808 ≤ x.entry ∧ x.entry < 9223372036854775808 := by
  obtain ⟨-, -, h1, -⟩ := h
  simp [Lit.wf, IntKind.min, IntKind.max, IntKind.signed, IntKind.bits] at h1
  omega
theorem SetV.wf_v {x : SetV} (h : x.wf) : 0 ≤ x.v ∧ x.v < 18446744073709551616 := by
  obtain ⟨-, -, -, h1⟩ := h
  simp [Lit.wf, IntKind.min, IntKind.max, IntKind.signed, IntKind.bits] at h1
  omega
/-- The address of a store: T the tower's first word, D the descriptors. -/
def SetV.addr (T D lk : Nat) (x : SetV) : Nat := if x.what % 4 = 0 then T + 4 else if x.what % 4 = 1 then T + 1 else if x.what % 4 = 2 then T + 2 else D + (x.entry % (lk : Int)).toNat
/-- Whether a store belongs before a step. -/
def SetV.now (i : Int) (x : SetV) : Bool := (if x.at_ < 0 then 0 else x.at_) == i
/-- Words and log behind the stores that belong before a step. -/
def putS (T D lk : Nat) (i : Int) (y : List Int × List Acc) (x : SetV) : List Int × List Acc :=
  if x.now i = true then (y.1.set (x.addr T D lk) x.v, y.2 ++ [⟨1, (x.addr T D lk : Nat), 2, (y.1[x.addr T D lk]?).getD 0, x.v, false⟩]) else y
def putsS (T D lk : Nat) (i : Int) (y : List Int × List Acc) (l : List SetV) : List Int × List Acc := l.foldl (putS T D lk i) y
/-- How many of them are stores of the state. -/
def cntS (i : Int) (l : List SetV) : Nat := (l.filter fun x => x.now i && x.what % 4 == 0).length
theorem putsS_take {T D lk : Nat} {i : Int} {y : List Int × List Acc} {l : List SetV} {k : Nat} {x : SetV} (h : l[k]? = some x) : putsS T D lk i y (l.take (k + 1)) = putS T D lk i (putsS T D lk i y (l.take k)) x := by
  unfold putsS
  rw [List.take_add_one, h, Option.toList_some, List.foldl_append]; rfl
theorem cntS_take {i : Int} {l : List SetV} {k : Nat} {x : SetV} (h : l[k]? = some x) : cntS i (l.take (k + 1)) = cntS i (l.take k) + (if (x.now i && x.what % 4 == 0) = true then 1 else 0) := by
  unfold cntS
  rw [List.take_add_one, h, Option.toList_some, List.filter_append, List.length_append]
  by_cases hx : (x.now i && x.what % 4 == 0) = true
  · rw [if_pos hx]; simp [List.filter, hx]
  · rw [if_neg hx]; simp [List.filter, hx]
theorem cntS_le (i : Int) (l : List SetV) : cntS i l ≤ l.length := List.length_filter_le _ _
theorem putS_len (T D lk : Nat) (i : Int) (y : List Int × List Acc) (x : SetV) : (putS T D lk i y x).1.length = y.1.length ∧ (putS T D lk i y x).2.length ≤ y.2.length + 1 := by
  unfold putS
  split
  · simp
  · exact ⟨rfl, Nat.le_succ _⟩
theorem putsS_len (T D lk : Nat) (i : Int) (y : List Int × List Acc) (l : List SetV) : (putsS T D lk i y l).1.length = y.1.length ∧ (putsS T D lk i y l).2.length ≤ y.2.length + l.length := by
  induction l generalizing y with
  | nil => exact ⟨rfl, Nat.le_refl _⟩
  | cons x l ih =>
    have h1 := putS_len T D lk i y x
    have h2 := ih (putS T D lk i y x)
    unfold putsS at h2 ⊢
    rw [List.foldl_cons]
    simp only [List.length_cons]
    omega
/-- Words that fit. -/
def WdsOk (ws : List Int) : Prop := ∀ x ∈ ws, 0 ≤ x ∧ x < 18446744073709551616
theorem putS_ok {T D lk : Nat} {i : Int} {y : List Int × List Acc} {x : SetV} (h : WdsOk y.1) (hx : x.wf) : WdsOk (putS T D lk i y x).1 := by
  unfold putS
  split
  · intro z hz
    rcases List.mem_or_eq_of_mem_set hz with e | rfl
    · exact h z e
    · exact SetV.wf_v hx
  · exact h
theorem putsS_ok {T D lk : Nat} {i : Int} {y : List Int × List Acc} {l : List SetV} (h : WdsOk y.1) (hx : ∀ x ∈ l, x.wf) : WdsOk (putsS T D lk i y l).1 := by
  induction l generalizing y with
  | nil => exact h
  | cons x l ih => exact ih (putS_ok h (hx x (List.mem_cons_self ..))) (fun z hz => hx z (List.mem_cons_of_mem _ hz))
/-- A read under way, n stores of its state having been made. -/
structure FI (lk tries : Int) (T : Nat) (ws : List Int) (s : RS) (n : Nat) : Prop where
  le : s.fails ≤ n
  nn : 0 ≤ s.fails
  sync : s.next = 23 ∨ s.ended = true ∨ ws[T + 4]? = some s.state ∨ s.fails < n
  tr : s.tries = tries
  going : s.ended = false → s.good lk ∧ s.err = 0 ∧ (tries = 0 ∨ s.fails < tries) ∧ 0 < s.next
  over : s.ended = true → s.next = 0 ∧ ((s.err = 11 ∧ 0 < tries ∧ s.fails = tries ∧ s.value = 0 ∧ s.present = false) ∨ (s.err = 0 ∧ (tries = 0 ∨ s.fails < tries)))
section
variable {lk tries : Int} {T D L : Nat} {ws : List Int} {s : RS} {n : Nat}
theorem FI.more (h : FI lk tries T ws s n) {m : Nat} (hm : n ≤ m) : FI lk tries T ws s m :=
  ⟨by have := h.le; omega, h.nn, h.sync.imp id (Or.imp id (Or.imp id (fun e => by omega))), h.tr, h.going, h.over⟩
theorem FI.put {i : Int} {y : List Int × List Acc} {x : SetV} (h : FI lk tries T y.1 s n) (hD : D + L ≤ T) (hL : 0 < L) : FI lk tries T (putS T D L i y x).1 s (n + (if (x.now i && x.what % 4 == 0) = true then 1 else 0)) := by
  unfold putS
  cases hn : x.now i with
  | false => simp; exact h
  | true =>
    rw [if_pos rfl]
    by_cases h0 : x.what % 4 = 0
    · have : (true && x.what % 4 == 0) = true := by simp [h0]
      rw [if_pos this]
      exact ⟨by have := h.le; omega, h.nn, .inr (.inr (.inr (by have := h.le; omega))), h.tr, h.going, h.over⟩
    · have : ¬ (true && x.what % 4 == 0) = true := by simp [h0]
      rw [if_neg this]
      have ha : x.addr T D L ≠ T + 4 := by
        unfold SetV.addr
        rw [if_neg h0]
        split
        · omega
        · split
          · omega
          · have h1 := Int.emod_lt_of_pos x.entry (show (0 : Int) < (L : Int) by omega)
            have h2 := Int.emod_nonneg x.entry (show (L : Int) ≠ 0 by omega)
            omega
      refine ⟨h.le, h.nn, ?_, h.tr, h.going, h.over⟩
      rw [List.getElem?_set_ne ha]
      exact h.sync
theorem FI.puts {i : Int} {y : List Int × List Acc} (l : List SetV) (h : FI lk tries T y.1 s n) (hD : D + L ≤ T) (hL : 0 < L) : FI lk tries T (putsS T D L i y l).1 s (n + cntS i l) := by
  induction l generalizing y n with
  | nil => exact h
  | cons x l ih =>
    have h1 := ih (h.put (i := i) (x := x) hD hL)
    have h2 : cntS i (x :: l) = (if (x.now i && x.what % 4 == 0) = true then 1 else 0) + cntS i l := by
      unfold cntS
      rw [List.filter_cons]
      split
      · simp; omega
      · simp
    rw [h2, ← Nat.add_assoc]
    exact h1
theorem RS.by_end {s : RS} {w : Int} (h : s.ended = false) : (s.by lk w).ended = true → (s.by lk w).next = 0 ∧ (s.by lk w).err = s.err ∧ (s.by lk w).fails = s.fails := by
  unfold RS.by
  split
  · intro _; exact ⟨rfl, rfl, rfl⟩
  · split
    · intro e; exact absurd e (by rw [show ({ s with state := w, next := 25 } : RS).ended = s.ended from rfl, h]; decide)
    · intro e; exact absurd e (by rw [show ({ s with state := w, next := 24 } : RS).ended = s.ended from rfl, h]; decide)
theorem RS.by_same (s : RS) (w : Int) : (s.by lk w).state = w ∧ (s.by lk w).err = s.err ∧ (s.by lk w).fails = s.fails ∧ (s.by lk w).tries = s.tries := by
  unfold RS.by RS.fin
  repeat' split
  all_goals exact ⟨rfl, rfl, rfl, rfl⟩
theorem good_pos {s : RS} (h : s.good lk) : 0 < s.next := by rcases h.nx with e | e | e | e | e <;> omega
/-- What a step keeps of a read that goes on or has ended. -/
structure StepR (lk tries w : Int) (s s' : RS) : Prop where
  tr : s'.tries = s.tries
  fl : s'.fails = s.fails ∨ (s'.fails = s.fails + 1 ∧ s.next = 27 ∧ w ≠ s.state)
  er : (s'.err = s.err ∧ (s'.fails = s.fails ∨ s.fails + 1 ≠ s.tries)) ∨ (s'.err = 11 ∧ s'.fails = s.fails + 1 ∧ s.fails + 1 = s.tries ∧ s'.value = 0 ∧ s'.present = false ∧ s'.ended = true)
  st : s'.ended = true ∨ s'.state = s.state ∨ ((s.next = 23 ∨ s.next = 27) ∧ s'.state = w)
  nx : s'.ended = true → s'.next = 0
  kp : s'.fails = s.fails + 1 → s'.ended = true ∨ s'.state = w
theorem RS.step_r {s : RS} {w : Int} (h : s.good lk) : StepR lk tries w s (s.step lk w) := by
  have hb := RS.by_same (lk := lk)
  unfold RS.step
  split
  · rename_i h1
    obtain ⟨b1, b2, b3, b4⟩ := hb s w
    exact ⟨b4, .inl b3, .inl ⟨b2, .inl b3⟩, .inr (.inr ⟨.inl h1, b1⟩), fun e => (RS.by_end h.ended e).1, fun e => by omega⟩
  · split
    · split
      · exact ⟨rfl, .inl rfl, .inl ⟨rfl, .inl rfl⟩, .inl rfl, fun _ => rfl, fun _ => .inl rfl⟩
      · split
        · exact ⟨rfl, .inl rfl, .inl ⟨rfl, .inl rfl⟩, .inr (.inl rfl), fun e => absurd e (by rw [show ({ s with next := 26 } : RS).ended = s.ended from rfl, h.ended]; decide), fun e => absurd e (by show ¬ s.fails = s.fails + 1; omega)⟩
        · exact ⟨rfl, .inl rfl, .inl ⟨rfl, .inl rfl⟩, .inr (.inl rfl), fun e => absurd e (by rw [show ({ s with next := 25 } : RS).ended = s.ended from rfl, h.ended]; decide), fun e => absurd e (by show ¬ s.fails = s.fails + 1; omega)⟩
    · split
      · exact ⟨rfl, .inl rfl, .inl ⟨rfl, .inl rfl⟩, .inl rfl, fun _ => rfl, fun _ => .inl rfl⟩
      · split
        · exact ⟨rfl, .inl rfl, .inl ⟨rfl, .inl rfl⟩, .inr (.inl rfl), fun e => absurd e (by rw [show ({ s with value := w, next := 27 } : RS).ended = s.ended from rfl, h.ended]; decide), fun e => absurd e (by show ¬ s.fails = s.fails + 1; omega)⟩
        · rename_i h1 h2 h3 h4
          have hn : s.next = 27 := by rcases h.nx with e | e | e | e | e <;> first | exact e | exact absurd e ‹_›
          split
          · exact ⟨rfl, .inl rfl, .inl ⟨rfl, .inl rfl⟩, .inl rfl, fun _ => rfl, fun _ => .inl rfl⟩
          · rename_i h5
            split
            · rename_i h6
              exact ⟨rfl, .inr ⟨rfl, hn, h5⟩, .inr ⟨rfl, rfl, h6, rfl, rfl, rfl⟩, .inl rfl, fun _ => rfl, fun _ => .inl rfl⟩
            · rename_i h6
              obtain ⟨b1, b2, b3, b4⟩ := hb { s with fails := s.fails + 1, value := 0 } w
              exact ⟨b4, .inr ⟨b3, hn, h5⟩, .inl ⟨b2, .inr h6⟩, .inr (.inr ⟨.inr hn, b1⟩), fun e => (RS.by_end (s := { s with fails := s.fails + 1, value := 0 }) h.ended e).1, fun _ => .inr b1⟩
theorem FI.step {w : Int} (h : FI lk tries T ws s n) (he : s.ended = false) (hw : ws[s.at T D]? = some w) (w0 : 0 ≤ w) (w1 : w < 18446744073709551616) (hb : s.fails + 1 < 1000000) : FI lk tries T ws (s.step lk w) n := by
  obtain ⟨hg, h0, hf, hp⟩ := h.going he
  have r := RS.step_r (tries := tries) (w := w) hg
  have hat : s.next = 23 ∨ s.next = 27 → ws[T + 4]? = some w := fun e => by
    have : s.at T D = T + 4 := by
      unfold RS.at
      rcases e with e | e <;> simp [e]
    rw [this] at hw
    exact hw
  have hle : (s.step lk w).fails ≤ n := by
    rcases r.fl with e | ⟨e, e2, e3⟩
    · rw [e]; exact h.le
    · rcases h.sync with a | a | a | a
      · omega
      · rw [he] at a; cases a
      · rw [hat (.inr e2)] at a; exact absurd (Option.some.inj a) e3
      · omega
  refine ⟨hle, ?_, ?_, r.tr.trans h.tr, fun e => ⟨RS.step_good hg w0 w1 hb e, ?_, ?_, good_pos (RS.step_good hg w0 w1 hb e)⟩, fun e => ⟨r.nx e, ?_⟩⟩
  · have := h.nn
    rcases r.fl with e | ⟨e, -, -⟩ <;> omega
  · cases hx : (s.step lk w).ended with
    | true => exact .inr (.inl rfl)
    | false =>
      refine .inr (.inr ?_)
      rcases r.fl with e | ⟨e, e2, e3⟩
      · rcases r.st with a | a | ⟨a, a2⟩
        · rw [hx] at a; cases a
        · rcases h.sync with b | b | b | b
          · rcases r.st with c | c | ⟨c, c2⟩
            · rw [hx] at c; cases c
            · refine .inl ?_
              have := hat (.inl b)
              have h23 : (s.step lk w) = s.by lk w := by unfold RS.step; rw [if_pos b]
              rw [h23, (RS.by_same s w).1]; exact this
            · exact .inl (by rw [c2]; exact hat c)
          · rw [he] at b; cases b
          · exact .inl (by rw [a]; exact b)
          · exact .inr (by omega)
        · exact .inl (by rw [a2]; exact hat a)
      · rcases r.kp e with a | a
        · rw [hx] at a; cases a
        · exact .inl (by rw [a]; exact hat (.inr e2))
  · rcases r.er with ⟨a, -⟩ | ⟨-, -, -, -, -, a⟩
    · rw [a]; exact h0
    · rw [e] at a; cases a
  · rcases r.er with ⟨a, b⟩ | ⟨-, -, -, -, -, a⟩
    · have ht := h.tr
      rcases hf with f | f
      · exact .inl f
      · right
        rcases b with b | b
        · omega
        · rcases r.fl with c | ⟨c, -, -⟩ <;> omega
    · rw [e] at a; cases a
  · have ht := h.tr
    rcases r.er with ⟨a, b⟩ | ⟨a, b, c, d, f, -⟩
    · refine .inr ⟨by rw [a]; exact h0, ?_⟩
      rcases hf with f | f
      · exact .inl f
      · right
        rcases b with b | b
        · omega
        · rcases r.fl with c | ⟨c, -, -⟩ <;> omega
    · exact .inl ⟨a, by have := h.nn; omega, by omega, d, f⟩
end
end Go.Lf

/-! law25: the stores that belong before a step, made in both stores. -/
set_option linter.unusedVariables false
set_option linter.unusedSimpArgs false
namespace Go.Proofs.YtmafdjhjmnghcaaGreat
open Go.RowKit Go.Lf
theorem u8rem4 {k : Int} (h0 : 0 ≤ k) (h1 : k < 256) : IntKind.u8.wrap (k.tmod 4) = k % 4 := by
  rw [Int.tmod_eq_emod_of_nonneg h0, IntKind.wrap_u8]; omega
section
variable {ω ω' : Type} {O : OpLies ω} {O' : OpLies ω'} {c : Cfg} {b mb rb rm : Nat} {w wr w' : World} {L : Nat → Prop} {x y : List Int × List Acc} {ops : List ω} {bl : List Nat} {ops' : List ω'} {bl' : List Nat}
set_option maxRecDepth 100000 in
set_option maxHeartbeats 4000000 in
theorem addr_ok (h : T2 O O' c b mb rb rm w L x ops bl y ops' bl' wr) (hok : c.ok) {k hh : Nat} (hx : c.hs[k]? = some hh) (t : Int) (ht : t = (k : Int) + 1) (z : SetV) (hz : z.wf) :
    Calls Tryz.prog 95 #[.agg #[.int .i64 z.at_, .int .u8 z.what, .int .i64 z.entry, .int .u64 z.v], .agg #[.pointer (some ⟨b, 0, none⟩), .pointer (some ⟨rb, 0, none⟩)], .int .i64 t] wr fun e w' => e = .returned (.int .i64 ((z.addr (c.tow k) c.descs c.lk : Nat) : Int)) ∧ Keep Nil wr w' := by
  have H := hid h
  have HX := hid hx
  have HOK := hid hok
  have HT := hid ht
  have hw := SetV.wf_what hz
  have he := SetV.wf_entry hz
  have HE := hid he
  have hlk := hid (And.intro hok.lk1 hok.lk2)
  have hwd := hid (rl_words hok)
  have hbd := hid (show c.tow k + 5 ≤ c.words ∧ c.descs + c.lk ≤ c.words from ⟨(c.tow_rng (List.getElem?_eq_some_iff.1 hx).1).2, by obtain ⟨a1, a2, a3, a4, a5, a6, a7, a8, a9⟩ := plc_lt c; omega⟩)
  obtain ⟨r, hrr⟩ : ∃ r, r = z.what % 4 := ⟨_, rfl⟩
  have hrv : r = 0 ∨ r = 1 ∨ r = 2 ∨ r = 3 := by omega
  have HRR := hid hrr
  clear h hx hok ht hz hrr he
  have e0 : c.tow k + 5 ≤ 65536 := by have := hbd.out; have := hwd.out; omega
  have e1 : c.descs + c.lk ≤ 65536 := by have := hbd.out; have := hwd.out; omega
  have w4 : IntKind.i64.wrap ((c.tow k : Int) + 4) = (c.tow k : Int) + 4 := by rw [IntKind.wrap_i64]; omega
  have w1 : IntKind.i64.wrap ((c.tow k : Int) + 1) = (c.tow k : Int) + 1 := by rw [IntKind.wrap_i64]; omega
  have w2 : IntKind.i64.wrap ((c.tow k : Int) + 2) = (c.tow k : Int) + 2 := by rw [IntKind.wrap_i64]; omega
  go_enter Tryz.func95, Tryz.ntmps95
  obtain ⟨l, hrl, qz⟩ := H.out.rl
  have HQL := hid hrl
  have q0 := (hrl _ (((Keep.refl Nil wr).alloc (.cells #[.int .i64 z.at_, .int .u8 z.what, .int .i64 z.entry, .int .u64 z.v] 100)).alloc (.cells #[.pointer (some ⟨b, 0, none⟩), .pointer (some ⟨rb, 0, none⟩)] 96))).1
  have qlz := (hrl _ (Keep.refl Nil wr)).2.lt
  clear hrl
  go_wp2_with fail
  refine (rfword_ok (HQL.out _ (((Keep.refl Nil wr).alloc _).alloc _)).2 hwd.out HX.out _ 0 _ HT.out (by omega) (by omega) rfl).mono ?_
  rintro e w3 ⟨rfl, hk3⟩
  have hb1 := hk3.at (alloc_old (heap_alloc_new wr _) _) (fun h => h)
  have hb2 := hk3.at (heap_alloc_new (wr.alloc _) _) (fun h => h)
  rw [World.size_alloc] at hb2
  have HK3 := hid ((((Keep.refl Nil wr).alloc _).alloc _).trans hk3 (fun _ _ h => h))
  have s1 : w3.cell? ⟨wr.heap.size, 1, none⟩ = some (.int .u8 z.what) := by rw [cell_of hb1]; rfl
  have s2 : w3.cell? ⟨wr.heap.size, 2, none⟩ = some (.int .i64 z.entry) := by rw [cell_of hb1]; rfl
  have s4 : w3.cell? ⟨wr.heap.size + 1, 1, none⟩ = some (.pointer (some ⟨rb, 0, none⟩)) := by rw [cell_of hb2]; rfl
  have z1 := lt_of_block hb1
  have z2 := lt_of_block hb2
  have q3 := HQL.out _ HK3.out
  have q00 := q3.1
  have q13 := q3.2.c13
  have q20 := q3.2.c20
  have qz3 := q3.2.lt
  have rz3 : rb < w3.heap.size := by have := HK3.out.size; omega
  clear hk3 hb1 hb2 q3 q0 qlz qz
  rcases hrv with rfl | rfl | rfl | rfl
  · have hr4 : True := trivial
    have be0 : (z.what % 4 == 0) = true := beq_iff_eq.2 HRR.out.symm
    have HA := hid (show ((z.addr (c.tow k) c.descs c.lk : Nat) : Int) = (c.tow k : Int) + 4 from by unfold SetV.addr; rw [if_pos HRR.out.symm]; rfl)
    go_wp2
    go_ret
    exact ⟨by rw [HA.out]; rfl, HK3.out⟩
  · have hr4 : True := trivial
    have be0 : (z.what % 4 == 0) = false := beq_eq_false_iff_ne.2 (by have := HRR.out; omega)
    have be1 : (z.what % 4 == 1) = true := beq_iff_eq.2 HRR.out.symm
    have HA := hid (show ((z.addr (c.tow k) c.descs c.lk : Nat) : Int) = (c.tow k : Int) + 1 from by unfold SetV.addr; rw [if_neg (by have := HRR.out; omega), if_pos HRR.out.symm]; rfl)
    go_wp2
    go_ret
    exact ⟨by rw [HA.out]; rfl, HK3.out⟩
  · have hr4 : True := trivial
    have be0 : (z.what % 4 == 0) = false := beq_eq_false_iff_ne.2 (by have := HRR.out; omega)
    have be1 : (z.what % 4 == 1) = false := beq_eq_false_iff_ne.2 (by have := HRR.out; omega)
    have be2 : (z.what % 4 == 2) = true := beq_iff_eq.2 HRR.out.symm
    have HA := hid (show ((z.addr (c.tow k) c.descs c.lk : Nat) : Int) = (c.tow k : Int) + 2 from by unfold SetV.addr; rw [if_neg (by have := HRR.out; omega), if_neg (by have := HRR.out; omega), if_pos HRR.out.symm]; rfl)
    go_wp2
    go_ret
    exact ⟨by rw [HA.out]; rfl, HK3.out⟩
  · have hr4 : True := trivial
    have be0 : (z.what % 4 == 0) = false := beq_eq_false_iff_ne.2 (by have := HRR.out; omega)
    have be1 : (z.what % 4 == 1) = false := beq_eq_false_iff_ne.2 (by have := HRR.out; omega)
    have be2 : (z.what % 4 == 2) = false := beq_eq_false_iff_ne.2 (by have := HRR.out; omega)
    have HA := hid (show ((z.addr (c.tow k) c.descs c.lk : Nat) : Int) = (c.descs : Int) + z.entry % (c.lk : Int) from by
      have h2 := Int.emod_nonneg z.entry (show (c.lk : Int) ≠ 0 by have := hlk.out; omega)
      unfold SetV.addr; rw [if_neg (by have := HRR.out; omega), if_neg (by have := HRR.out; omega), if_neg (by have := HRR.out; omega)]; omega)
    have wd : IntKind.i64.wrap ((c.descs : Int) + z.entry % (c.lk : Int)) = (c.descs : Int) + z.entry % (c.lk : Int) := by
      have h1 := Int.emod_lt_of_pos z.entry (show (0 : Int) < (c.lk : Int) by have := hlk.out; omega)
      have h2 := Int.emod_nonneg z.entry (show (c.lk : Int) ≠ 0 by have := hlk.out; omega)
      rw [IntKind.wrap_i64]; omega
    go_upto_region 9 with fail
    go_quiet ((go_at_call 29; exact quiet_eq (mod_ok z.entry (c.lk : Int) (by have := HE.out; omega) (by have := HE.out; omega) (by have := hlk.out; omega) (by have := hlk.out; omega) _)))
    go_wp2
    go_ret
    exact ⟨by rw [HA.out]; rfl, HK3.out.drewN _⟩
def SetTo {ω ω' : Type} (O : OpLies ω) (O' : OpLies ω') (c : Cfg) (b mb rb rm : Nat) (w wr : World) (L : Nat → Prop) (x : List Int × List Acc) (ops : List ω) (bl : List Nat) (y : List Int × List Acc) (ops' : List ω') (bl' : List Nat) (T : Nat) (i : Int) (l : List SetV) (e : Ending) (w' : World) : Prop :=
  e = .returned (.bool true) ∧ T2 O O' c b mb rb rm w L (putsS T c.descs c.lk i x l) ops bl (putsS T c.descs c.lk i y l) ops' bl' w' ∧ Keep (Out w L) wr w'
theorem setCells_at {l : List SetV} {i : Nat} {z : SetV} (h : l[i]? = some z) : (setCells l)[i * 4]? = some (.int .i64 z.at_) ∧ (setCells l)[i * 4 + 1]? = some (.int .u8 z.what) ∧ (setCells l)[i * 4 + 2]? = some (.int .i64 z.entry) ∧ (setCells l)[i * 4 + 3]? = some (.int .u64 z.v) :=
  ⟨flatn_at SetV.cells 4 (fun _ => rfl) l h (j := 0) (by decide), flatn_at SetV.cells 4 (fun _ => rfl) l h (j := 1) (by decide), flatn_at SetV.cells 4 (fun _ => rfl) l h (j := 2) (by decide), flatn_at SetV.cells 4 (fun _ => rfl) l h (j := 3) (by decide)⟩
set_option maxRecDepth 100000 in
set_option maxHeartbeats 4000000 in
theorem set_ok {wv : World} (h : T2 O O' c b mb rb rm w L x ops bl y ops' bl' wv) (hok : c.ok) {k hh : Nat} (hx : c.hs[k]? = some hh) (t : Int) (ht : t = (k : Int) + 1) (a : Option Addr) (cp : Nat) (l : List SetV) (hrd : Rd wv 4 (.slice a l.length cp) l.length (setCells l)) (hb : ∀ k, 0 < l.length → (Value.slice a l.length cp).ownBlock = some k → ¬ Out w L k) (hwf : ∀ z ∈ l, z.wf) (hn : l.length ≤ 1000) (x1 : x.1.length = c.words) (y1 : y.1.length = c.words) (x2 : x.2.length < 1000000000) (y2 : y.2.length < 1000000000) (i : Int) :
    Calls Tryz.prog 49 #[.agg #[.pointer (some ⟨b, 0, none⟩), .pointer (some ⟨rb, 0, none⟩)], .int .i64 t, .slice a l.length cp, .int .i64 i] wv (SetTo O O' c b mb rb rm w wv L x ops bl y ops' bl' (c.tow k) i l) := by
  have H := hid h
  have HX := hid hx
  have HOK := hid hok
  have HT := hid ht
  have HRD := hid hrd
  have HBL := hid hb
  have HWF := hid hwf
  have HLN := hid (And.intro (And.intro x1 y1) (And.intro x2 y2))
  have HLW := hid (And.intro hok.lk1 (rl_words hok))
  clear h hx hok ht hrd hb hwf x1 y1 x2 y2
  go_enter Tryz.func49, Tryz.ntmps49
  go_wp2
  obtain ⟨W, hW⟩ : ∃ W, W = wv.alloc (.cells #[.pointer (some ⟨b, 0, none⟩), .pointer (some ⟨rb, 0, none⟩)] 96) := ⟨_, rfl⟩
  rw [← hW]
  have h1 := H.out.own1 (.cells #[.pointer (some ⟨b, 0, none⟩), .pointer (some ⟨rb, 0, none⟩)] 96)
  have hbx := heap_alloc_new wv (.cells #[.pointer (some ⟨b, 0, none⟩), .pointer (some ⟨rb, 0, none⟩)] 96)
  have hkw := (Keep.refl Nil wv).alloc (.cells #[.pointer (some ⟨b, 0, none⟩), .pointer (some ⟨rb, 0, none⟩)] 96)
  rw [← hW] at h1 hbx hkw
  obtain ⟨L1, hL1⟩ : ∃ L1 : Nat → Prop, L1 = fun k => L k ∨ k = wv.heap.size := ⟨_, rfl⟩
  rw [← hL1] at h1
  have HL1 := hid (show ∀ k, L1 k ↔ L k ∨ k = wv.heap.size from fun k => by rw [hL1])
  clear hW hL1
  have HD := hid h1
  have HBX := hid hbx
  have HKW := hid hkw
  have HOUT := hid (show ∀ k, ¬ Out w L k → ¬ Out w L1 k from fun k hk e => hk ⟨fun hl => e.1 ((HL1.out k).2 (.inl hl)), e.2⟩)
  clear h1 hbx hkw
  go_loopw [9] (fun iv wz => ∃ j : Nat, j ≤ l.length ∧ iv = .int .i64 j ∧ T2 O O' c b mb rb rm w L1 (putsS (c.tow k) c.descs c.lk i x (l.take j)) ops bl (putsS (c.tow k) c.descs c.lk i y (l.take j)) ops' bl' wz ∧ Keep (Out w L1) W wz) (fun iv _ => l.length - (intOf iv).toNat)
  case atStart => exact ⟨0, Nat.zero_le _, rfl, HD.out, Keep.refl _ W⟩
  case round =>
    obtain ⟨j, hj, rfl, htw, hkk⟩ := hrel
    have HTW := hid htw
    have HKK := hid hkk
    clear htw hkk
    by_cases hlt : j < l.length
    · obtain ⟨z, hz⟩ : ∃ z, l[j]? = some z := ⟨_, List.getElem?_eq_getElem hlt⟩
      obtain ⟨bb, off, cc, hv, hcell⟩ := Rd.cell (rd_keep (rd_keep HRD.out HKW.out (fun _ _ h => h)) HKK.out (fun k e => HOUT.out k (HBL.out k (by omega) e))) (by omega)
      simp only [Value.slice.injEq] at hv
      obtain ⟨rfl, -, rfl⟩ := hv
      obtain ⟨e0, e1, e2, e3⟩ := setCells_at hz
      have v0 := hcell _ _ e0
      have v1 := hcell _ _ e1
      have v2 := hcell _ _ e2
      have v3 := hcell _ _ e3
      rw [← Nat.add_assoc] at v1 v2 v3
      have hbx := HKK.out.loc HBX.out ((HL1.out _).2 (.inr rfl))
      have p0 : wr.cell? ⟨wv.heap.size, 0, none⟩ = some (.pointer (some ⟨b, 0, none⟩)) := by rw [cell_of hbx]; rfl
      have p1 : wr.cell? ⟨wv.heap.size, 1, none⟩ = some (.pointer (some ⟨rb, 0, none⟩)) := by rw [cell_of hbx]; rfl
      have pz : wv.heap.size < wr.heap.size := lt_of_block hbx
      have k0 : (0 : Int) ≤ (j : Int) := by omega
      have k1 : (j : Int) < (l.length : Int) := by omega
      have wk : IntKind.i64.wrap ((j : Int) + 1) = (j : Int) + 1 := by rw [IntKind.wrap_i64]; omega
      have HZ := hid hz
      have HBX2 := hid hbx
      clear hz hcell e0 e1 e2 e3 hbx
      have HTK := hid (fun (u : List Int × List Acc) => putsS_take (T := c.tow k) (D := c.descs) (lk := c.lk) (i := i) (y := u) HZ.out)
      have hln : ∀ u : List Int × List Acc, (putsS (c.tow k) c.descs c.lk i u (l.take j)).1.length = u.1.length ∧ (putsS (c.tow k) c.descs c.lk i u (l.take j)).2.length ≤ u.2.length + 1000 := fun u => by
        have h1 := putsS_len (c.tow k) c.descs c.lk i u (l.take j)
        have h2 : (l.take j).length ≤ l.length := by rw [List.length_take]; omega
        exact ⟨h1.1, by omega⟩
      have HL2 := hid hln
      clear hln
      obtain ⟨m, hm⟩ : ∃ m, (if z.at_ < 0 then 0 else z.at_) = m := ⟨_, rfl⟩
      have hnm : z.now i = (m == i) := by rw [← hm]; rfl
      cases hnow : z.now i with
      | false =>
        have HNW := hid hnow
        have hn2 : (m == i) = false := by rw [← hnm]; exact hnow
        clear hnow hnm
        go_upto_region 4 with fail
        go_quiet (fail)
        go_wp2
        go_roundw
        case rel =>
          refine ⟨j + 1, by omega, by go_num, ?_, HKK.out.drewN _⟩
          rw [HTK.out, HTK.out]
          unfold putS
          rw [if_neg (by rw [HNW.out]; decide), if_neg (by rw [HNW.out]; decide)]
          exact HTW.out.quiet ((Keep.refl Nil _).drewN _)
        case measure => simp [intOf]; omega
      | true =>
        have HNW := hid hnow
        have hn2 : (m == i) = true := by rw [← hnm]; exact hnow
        clear hnow hnm
        have HADR := hid (show z.addr (c.tow k) c.descs c.lk < c.words from by
          have h1 := (c.tow_rng (List.getElem?_eq_some_iff.1 HX.out).1).2
          have h2 : c.descs + c.lk ≤ c.words := by obtain ⟨a1, a2, a3, a4, a5, a6, a7, a8, a9⟩ := plc_lt c; omega
          have h3 := HLW.out.1
          have h4 := Int.emod_lt_of_pos z.entry (show (0 : Int) < (c.lk : Int) by omega)
          have h5 := Int.emod_nonneg z.entry (show (c.lk : Int) ≠ 0 by omega)
          unfold SetV.addr
          split
          · omega
          · split
            · omega
            · split
              · omega
              · omega)
        have KD := hid ((Keep.refl Nil wr).drew)
        have HOB := hid (show ¬ Out w L1 bb from HOUT.out bb (HBL.out bb (by omega) rfl))
        go_upto_region 4 with fail
        go_region_held3 (fun w' => w'.cell? ⟨bb, off + j * 4, none⟩ = some (.int .i64 z.at_) ∧ w'.cell? ⟨bb, off + j * 4 + 1, none⟩ = some (.int .u8 z.what) ∧ w'.cell? ⟨bb, off + j * 4 + 2, none⟩ = some (.int .i64 z.entry) ∧ w'.cell? ⟨bb, off + j * 4 + 3, none⟩ = some (.int .u64 z.v) ∧ w'.cell? ⟨wv.heap.size, 0, none⟩ = some (.pointer (some ⟨b, 0, none⟩)) ∧ w'.cell? ⟨wv.heap.size, 1, none⟩ = some (.pointer (some ⟨rb, 0, none⟩))) (first | (exact s9; done) | go_keep)
          (first
            | (go_at_call 95; (with_reducible refine (addr_ok (HTW.out.quiet KD.out) HOK.out HX.out _ HT.out z (HWF.out z (List.mem_of_getElem? HZ.out))).mono ?_); rintro e w1 ⟨rfl, hk1⟩; have K1 := hid (KD.out.trans hk1 (fun _ _ h => h)); have s9 : w1.cell? ⟨bb, off + j * 4, none⟩ = some (.int .i64 z.at_) ∧ w1.cell? ⟨bb, off + j * 4 + 1, none⟩ = some (.int .u8 z.what) ∧ w1.cell? ⟨bb, off + j * 4 + 2, none⟩ = some (.int .i64 z.entry) ∧ w1.cell? ⟨bb, off + j * 4 + 3, none⟩ = some (.int .u64 z.v) ∧ w1.cell? ⟨wv.heap.size, 0, none⟩ = some (.pointer (some ⟨b, 0, none⟩)) ∧ w1.cell? ⟨wv.heap.size, 1, none⟩ = some (.pointer (some ⟨rb, 0, none⟩)) := ⟨K1.out.cell v0 (fun h => h), K1.out.cell v1 (fun h => h), K1.out.cell v2 (fun h => h), K1.out.cell v3 (fun h => h), K1.out.cell p0 (fun h => h), K1.out.cell p1 (fun h => h)⟩; clear hk1)
            | (go_at_call 53; (with_reducible refine (t2_store (HTW.out.quiet K1.out) 1 _ z.v (by decide) (by decide) (Int.natCast_nonneg _) (by have h1 := (HL2.out x).1; have h2 := HLN.out.1.1; have h3 := HADR.out; rw [Int.toNat_natCast]; omega) (by have h1 := (HL2.out y).1; have h2 := HLN.out.1.2; have h3 := HADR.out; rw [Int.toNat_natCast]; omega) (by have h1 := (HL2.out x).2; have h2 := HLN.out.2.1; omega) (by have h1 := (HL2.out y).2; have h2 := HLN.out.2.2; omega)).mono ?_); rintro e w2 ⟨rfl, ht2, hk2⟩; have hb2 := hk2.loc (K1.out.at HBX2.out (fun h => h)) ((HL1.out _).2 (.inr rfl)); have HT2 := hid ht2; have K2 := hid hk2; have s9 : w2.cell? ⟨bb, off + j * 4, none⟩ = some (.int .i64 z.at_) ∧ w2.cell? ⟨bb, off + j * 4 + 1, none⟩ = some (.int .u8 z.what) ∧ w2.cell? ⟨bb, off + j * 4 + 2, none⟩ = some (.int .i64 z.entry) ∧ w2.cell? ⟨bb, off + j * 4 + 3, none⟩ = some (.int .u64 z.v) ∧ w2.cell? ⟨wv.heap.size, 0, none⟩ = some (.pointer (some ⟨b, 0, none⟩)) ∧ w2.cell? ⟨wv.heap.size, 1, none⟩ = some (.pointer (some ⟨rb, 0, none⟩)) := ⟨hk2.cell s9.1 HOB.out, hk2.cell s9.2.1 HOB.out, hk2.cell s9.2.2.1 HOB.out, hk2.cell s9.2.2.2.1 HOB.out, (by rw [cell_of hb2]; rfl), (by rw [cell_of hb2]; rfl)⟩; clear ht2 hk2 hb2))
        all_goals
          go_wp2
          go_roundw
          case rel =>
            refine ⟨j + 1, by omega, by go_num, ?_, HKK.out.trans ((K1.out.mono (T := Out w L1) (fun _ _ h => h.elim)).trans K2.out (fun _ _ h => h)) (fun _ _ h => h)⟩
            rw [HTK.out, HTK.out]
            unfold putS
            rw [if_pos HNW.out, if_pos HNW.out]
            exact HT2.out
          case measure => simp [intOf]; omega
    · obtain rfl : j = l.length := by omega
      have h1 := HTW.out
      rw [List.take_length] at h1
      have hless := h1.less (L' := L) (fun k hl => (HL1.out k).2 (.inl hl))
      have hout : ∀ k, k < wv.heap.size → Out w L1 k → Out w L k := fun k hlt e => ⟨fun hl => e.1 ((HL1.out k).2 (.inl hl)), e.2⟩
      have HF := hid hless
      have HO := hid hout
      clear h1 hless hout
      go_wp2
      go_ret
      exact ⟨rfl, HF.out, (HKW.out.mono (T := Out w L) (fun _ _ h => h.elim)).trans HKK.out HO.out⟩
end
end Go.Proofs.YtmafdjhjmnghcaaGreat

/-! Both stores and a read of the program: contracts. -/
set_option linter.unusedVariables false
set_option linter.unusedSimpArgs false
namespace Go.Proofs.YtmafdjhjmnghcaaGreat
open Go.RowKit Go.Lf
/-- Reads as objects. -/
def ReadO (b : Nat) : OpLies RS where
  at_ w r s := ReadAt w r b s
  keep := fun h hk hn => h.keep hk hn
  lt := fun h => lt_of_block h
/-- No objects. -/
def NoO : OpLies Unit where
  at_ _ _ _ := False
  keep := fun h _ _ => h.elim
  lt := fun h => h.elim
section
variable {ω' : Type} {O' : OpLies ω'} {c : Cfg} {b mb rb rm r : Nat} {w wr w' : World} {L : Nat → Prop} {x y : List Int × List Acc} {ops' : List ω'} {bl' : List Nat} {s : RS} {i : Nat}
theorem tw_new (h : T2 (ReadO b) O' c b mb rb rm w L x [] [] y ops' bl' wr) (hok : c.ok) (t tw tr : Int) (t0 : 0 ≤ t) (t1 : t < 64) (r0 : 0 ≤ tr) (r1 : tr ≤ 255) (w0 : 1 ≤ tw) (w1 : tw ≤ (c.nT : Int)) :
    Calls Tryz.prog 33 #[.pointer (some ⟨b, 0, none⟩), .int .i64 t, .int .i64 tw, .int .i64 tr] wr fun e w' => e = .returned (.tuple #[.pointer (some ⟨wr.heap.size, 0, none⟩), .int .i64 0]) ∧ T2 (ReadO b) O' c b mb rb rm w L x [RS.init t tw tr] [wr.heap.size] y ops' bl' w' ∧ Keep (Out w L) wr w' := by
  refine h.call1 (s' := (x, [RS.init t tw tr], [wr.heap.size])) (fun A hA => ?_)
  obtain ⟨F, ho⟩ := hA
  obtain ⟨l, F1, G, hsp⟩ := ho.sys
  refine (rdnew_ok hsp hok t tw tr t0 t1 r0 r1 w0 w1).mono ?_
  rintro e w' ⟨rfl, h1, h2⟩
  exact ⟨rfl, ho.new (o := RS.init t tw tr) ⟨l, F1, G, hsp.quiet h2⟩ h1 (h2.mono (fun _ _ h => h.elim))⟩
theorem tw_at (h : T2 (ReadO b) O' c b mb rb rm w L x [s] [r] y ops' bl' wr) : ReadAt wr r b s := by
  obtain ⟨A, F, ho⟩ := h.has1
  exact (ho.objs 0 r s rfl rfl).1
theorem tw_next (h : T2 (ReadO b) O' c b mb rb rm w L x [s] [r] y ops' bl' wr) : Calls Tryz.prog 36 #[.pointer (some ⟨r, 0, none⟩)] wr fun e w' => e = .returned (.int .u8 s.next) ∧ wr = w' := rnext_ok (tw_at h)
theorem tw_layout (h : T2 (ReadO b) O' c b mb rb rm w L x [s] [r] y ops' bl' wr) : True := trivial
theorem t2_layout {ω : Type} {O : OpLies ω} {ops : List ω} {bl : List Nat} (h : T2 O O' c b mb rb rm w L x ops bl y ops' bl' wr) : Calls Tryz.prog 22 #[.pointer (some ⟨b, 0, none⟩)] wr (LayTo wr c) := by
  obtain ⟨A, l, F, G, hsp⟩ := h.sp
  refine (blayout_ok hsp).mono ?_
  rintro e w' ⟨rfl, rfl⟩
  exact ⟨l, rfl, hsp.lay.at_, rfl⟩
theorem t2_words {ω : Type} {O : OpLies ω} {ops : List ω} {bl : List Nat} (h : T2 O O' c b mb rb rm w L x ops bl y ops' bl' wr) (hn : x.1.length ≤ 1000000000) : Calls Tryz.prog 50 #[.pointer (some ⟨mb, 0, none⟩)] wr (RowTo wr 26 x.1.length (u64s x.1)) := by
  obtain ⟨A, l, F, G, hsp⟩ := h.sp
  exact words_ok hsp.mem hn
/-- A step of the read. -/
def TwStepTo {ω' : Type} (O' : OpLies ω') (c : Cfg) (b mb rb rm : Nat) (w wr : World) (L : Nat → Prop) (ws : List Int) (lo : List Acc) (ac : Acc) (pc : Int) (s' : RS) (r : Nat) (y : List Int × List Acc) (ops' : List ω') (bl' : List Nat) (e : Ending) (w' : World) : Prop :=
  ∃ log' : List Acc, (e = .returned (.tuple #[.int .u8 pc, .bool s'.ended]) ∧ log' = lo ++ [ac]) ∧ T2 (ReadO b) O' c b mb rb rm w L (ws, log') [s'] [r] y ops' bl' w' ∧ Keep (Out w L) wr w'
theorem tw_step (h : T2 (ReadO b) O' c b mb rb rm w L x [s] [r] y ops' bl' wr) (hf : RWf c x.1 x.2.length s i) (hg : s.good c.lk) :
    Calls Tryz.prog 34 #[.pointer (some ⟨r, 0, none⟩)] wr (TwStepTo O' c b mb rb rm w wr L x.1 x.2 (s.acc (c.tow i) c.descs x.1) s.next (s.step c.lk (s.word (c.tow i) c.descs x.1)) r y ops' bl') := by
  refine h.call1x (X := List Acc) (Φ := fun log' e => e = .returned (.tuple #[.int .u8 s.next, .bool (s.step c.lk (s.word (c.tow i) c.descs x.1)).ended]) ∧ log' = x.2 ++ [s.acc (c.tow i) c.descs x.1]) (s' := fun log' => ((x.1, log'), [s.step c.lk (s.word (c.tow i) c.descs x.1)], [r])) (fun A hA => ?_)
  obtain ⟨F, ho⟩ := hA
  obtain ⟨l, F1, G, hsp⟩ := ho.sys
  obtain ⟨hat, nA⟩ := ho.objs 0 r s rfl rfl
  have hR : RIn wr F c b mb l r F1 G x.1 x.2 s i := ⟨hsp, hf.ok, hat, nA, hf.hi, hf.tw, hf.t0, hf.t1, hf.wf, hf.len, by have := hf.lg; omega, hg⟩
  refine (rstep_ok hR).mono ?_
  rintro e w' ⟨rfl, log', hl, F', h1, h2, h3, h4⟩
  refine ⟨log', ⟨rfl, hl⟩, ?_⟩
  have hz : r < wr.heap.size := lt_of_block hat
  exact ho.one (t := 0) (b := r) rfl h1 h2 (h3.mono (fun k _ e => e)) h4 (fun e => (h4 r e).elim nA (fun e => by omega))
end
end Go.Proofs.YtmafdjhjmnghcaaGreat

/-! ReadFails: what lies in the world at each round. -/
set_option linter.unusedVariables false
set_option linter.unusedSimpArgs false
namespace Go.Proofs.YtmafdjhjmnghcaaGreat
open Go.RowKit Go.Lf
structure FW (w wr : World) (c : Cfg) (b mb rb rm r k : Nat) (L : Nat → Prop) (tries : Int) (m n : Nat) (s : RS) (ws : List Int) : Prop where
  ex : ∃ (la : List Acc) (y : List Int × List Acc), T2 (ReadO b) NoO c b mb rb rm w L (ws, la) [s] [r] y [] [] wr ∧ la.length ≤ m ∧ y.2.length ≤ m ∧ y.1.length = c.words
  wd : WdOk c ws
  fi : FI c.lk tries (c.tow k) ws s n
  tw : s.tower = (k : Int) + 1
  th : s.th = 0
  nm : n ≤ m
section
variable {w wr w' : World} {c : Cfg} {b mb rb rm r k m n : Nat} {L : Nat → Prop} {tries : Int} {s : RS} {ws : List Int}
theorem FW.quiet (h : FW w wr c b mb rb rm r k L tries m n s ws) (hk : Keep Nil wr w') : FW w w' c b mb rb rm r k L tries m n s ws := by
  obtain ⟨la, y, h1, h2⟩ := h.ex
  exact ⟨⟨la, y, h1.quiet hk, h2⟩, h.wd, h.fi, h.tw, h.th, h.nm⟩
theorem FW.loc (h : FW w wr c b mb rb rm r k L tries m n s ws) (hk : Keep L wr w') {L' : Nat → Prop} (hL : ∀ k, L' k → L k ∨ (wr.heap.size ≤ k ∧ k < w'.heap.size)) : FW w w' c b mb rb rm r k L' tries m n s ws := by
  obtain ⟨la, y, h1, h2⟩ := h.ex
  exact ⟨⟨la, y, Two.loc h1 hk hL, h2⟩, h.wd, h.fi, h.tw, h.th, h.nm⟩
theorem FW.less (h : FW w wr c b mb rb rm r k L tries m n s ws) {L' : Nat → Prop} (hL : ∀ k, L' k → L k) : FW w wr c b mb rb rm r k L' tries m n s ws := by
  obtain ⟨la, y, h1, h2⟩ := h.ex
  exact ⟨⟨la, y, Two.less h1 hL, h2⟩, h.wd, h.fi, h.tw, h.th, h.nm⟩
theorem FW.own (h : FW w wr c b mb rb rm r k L tries m n s ws) : Keep Nil w wr := by
  obtain ⟨la, y, h1, h2⟩ := h.ex
  exact h1.own
theorem fw_mem (h : FW w wr c b mb rb rm r k L tries m n s ws) : Calls Tryz.prog 24 #[.pointer (some ⟨b, 0, none⟩)] wr fun e w' => e = .returned (.pointer (some ⟨mb, 0, none⟩)) ∧ wr = w' := by
  obtain ⟨la, y, h1, h2⟩ := h.ex
  exact t2_mem h1
theorem fw_next (h : FW w wr c b mb rb rm r k L tries m n s ws) : Calls Tryz.prog 36 #[.pointer (some ⟨r, 0, none⟩)] wr fun e w' => e = .returned (.int .u8 s.next) ∧ wr = w' := by
  obtain ⟨la, y, h1, h2⟩ := h.ex
  exact tw_next h1
theorem fw_words (h : FW w wr c b mb rb rm r k L tries m n s ws) (hok : c.ok) : Calls Tryz.prog 50 #[.pointer (some ⟨mb, 0, none⟩)] wr (RowTo wr 26 c.words (u64s ws)) := by
  obtain ⟨la, y, h1, h2⟩ := h.ex
  have := t2_words h1 (by show ws.length ≤ _; rw [h.wd.len]; have := words_le c hok; omega)
  rw [show (ws, la).1.length = c.words from h.wd.len] at this
  exact this
def FwStepTo (w wr : World) (c : Cfg) (b mb rb rm r k : Nat) (L : Nat → Prop) (tries : Int) (m n : Nat) (pc : Int) (s : RS) (ws : List Int) (e : Ending) (w' : World) : Prop :=
  e = .returned (.tuple #[.int .u8 pc, .bool s.ended]) ∧ FW w w' c b mb rb rm r k L tries m n s ws ∧ Keep (Out w L) wr w'
theorem fw_step (h : FW w wr c b mb rb rm r k L tries m n s ws) (hok : c.ok) (hk : k < c.nT) (he : s.ended = false) (hm : m < 900000) :
    Calls Tryz.prog 34 #[.pointer (some ⟨r, 0, none⟩)] wr (FwStepTo w wr c b mb rb rm r k L tries (m + 1) n s.next (s.step c.lk (s.word (c.tow k) c.descs ws)) ws) := by
  obtain ⟨la, y, h1, h2, h3, h4⟩ := h.ex
  obtain ⟨hg, h0, hf, hp⟩ := h.fi.going he
  have hle := h.fi.le
  have hnm := h.nm
  have hlt := (c.tow_rng hk).2
  have hdw : c.descs + c.lk ≤ c.words := by obtain ⟨a1, a2, a3, a4, a5, a6, a7, a8, a9⟩ := plc_lt c; omega
  have hat : s.at (c.tow k) c.descs < c.words := by
    unfold RS.at
    rcases hg.nx with e | e | e | e | e
    · rw [if_pos e]; omega
    · rw [if_neg (by omega), if_pos e]
      have h5 := hg.en e
      have h7 := hok.lk1
      omega
    · rw [if_neg (by omega), if_neg (by omega), if_pos e]; omega
    · rw [if_neg (by omega), if_neg (by omega), if_neg (by omega), if_pos e]; omega
    · rw [if_neg (by omega), if_neg (by omega), if_neg (by omega), if_neg (by omega)]; omega
  obtain ⟨v, hv, v0, v1⟩ := h.wd.at hat
  have hwv : s.word (c.tow k) c.descs ws = v := by unfold RS.word; rw [hv]; rfl
  have hR : RWf c (ws, la).1 (ws, la).2.length s k := ⟨hok, hk, h.tw, by rw [h.th]; decide, by rw [h.th]; decide, h.wd.wf, by show c.words ≤ ws.length; rw [h.wd.len]; exact Nat.le_refl _, by show la.length < _; omega⟩
  refine (tw_step h1 hR hg).mono ?_
  rintro e w' ⟨log', ⟨rfl, hl⟩, ht, hkk⟩
  have hl' : log'.length = la.length + 1 := by rw [hl]; simp
  obtain ⟨q1, q2, q3⟩ := RS.step_tower (lk := c.lk) (s := s) (x := s.word (c.tow k) c.descs ws)
  refine ⟨rfl, ⟨⟨log', y, ht, by omega, by omega, h4⟩, h.wd, ?_, q1.trans h.tw, q2.trans h.th, by omega⟩, hkk⟩
  rw [hwv]
  exact h.fi.step he hv v0 v1 (by omega)
def FwSetTo (w wr : World) (c : Cfg) (b mb rb rm r k : Nat) (L : Nat → Prop) (tries : Int) (m n : Nat) (s : RS) (e : Ending) (w' : World) : Prop :=
  e = .returned (.bool true) ∧ ∃ ws, FW w w' c b mb rb rm r k L tries m n s ws ∧ Keep (Out w L) wr w'
theorem fw_set (h : FW w wr c b mb rb rm r k L tries m n s ws) (hok : c.ok) (hk : k < c.nT) (t : Int) (ht : t = (k : Int) + 1) (a : Option Addr) (cp : Nat) (l : List SetV) (hrd : Rd wr 4 (.slice a l.length cp) l.length (setCells l)) (hb : ∀ k, 0 < l.length → (Value.slice a l.length cp).ownBlock = some k → ¬ Out w L k) (hwf : ∀ z ∈ l, z.wf) (hn : l.length ≤ 60) (i : Int) (hm : m < 900000) :
    Calls Tryz.prog 49 #[.agg #[.pointer (some ⟨b, 0, none⟩), .pointer (some ⟨rb, 0, none⟩)], .int .i64 t, .slice a l.length cp, .int .i64 i] wr (FwSetTo w wr c b mb rb rm r k L tries (m + 60) (n + cntS i l) s) := by
  obtain ⟨la, y, h1, h2, h3, h4⟩ := h.ex
  have hx : c.hs[k]? = some c.hs[k] := List.getElem?_eq_getElem hk
  refine (set_ok h1 hok hx t ht a cp l hrd hb hwf (by omega) h.wd.len h4 (by show la.length < _; omega) (by omega) i).mono ?_
  rintro e w' ⟨rfl, h5, h6⟩
  have p1 := putsS_len (c.tow k) c.descs c.lk i (ws, la) l
  have p2 := putsS_len (c.tow k) c.descs c.lk i y l
  have p3 := putsS_ok (T := c.tow k) (D := c.descs) (lk := c.lk) (i := i) (y := (ws, la)) (l := l) h.wd.wf hwf
  have hcn := cntS_le i l
  have hnm := h.nm
  have e1 : (ws, la).2.length = la.length := rfl
  have e2 : (ws, la).1.length = c.words := h.wd.len
  have hdt : c.descs + c.lk ≤ c.tow k := by
    have := (c.tow_rng hk).1
    obtain ⟨a1, a2, a3, a4, a5, a6, a7, a8, a9⟩ := plc_lt c; omega
  refine ⟨rfl, (putsS (c.tow k) c.descs c.lk i (ws, la) l).1, ⟨⟨(putsS (c.tow k) c.descs c.lk i (ws, la) l).2, _, h5, by omega, by omega, by omega⟩, ⟨by omega, p3⟩, ?_, h.tw, h.th, by omega⟩, h6⟩
  exact FI.puts (y := (ws, la)) l h.fi hdt (by have := hok.lk1; omega)
theorem fw_res0 (h : FW w wr c b mb rb rm r k L tries m n s ws) (he : s.ended = false) : Calls Tryz.prog 35 #[.pointer (some ⟨r, 0, none⟩)] wr fun e w' => e = .returned (.tuple #[.int .u64 0, .bool false, .int .i64 0, .int .i64 8]) ∧ wr = w' := by
  obtain ⟨la, y, h1, h2⟩ := h.ex
  exact rres_state (tw_at h1) he
theorem fw_res1 (h : FW w wr c b mb rb rm r k L tries m n s ws) (he : s.ended = true) : Calls Tryz.prog 35 #[.pointer (some ⟨r, 0, none⟩)] wr fun e w' => e = .returned (.tuple #[.int .u64 s.value, .bool s.present, .int .i64 s.fails, .int .i64 s.err]) ∧ Keep Nil wr w' := by
  obtain ⟨la, y, h1, h2⟩ := h.ex
  exact rres_ok (tw_at h1) he
theorem FI.init (lk t : Int) (T : Nat) (ws : List Int) (tw tries : Int) (h : 0 ≤ tries) : FI lk tries T ws (RS.init t tw tries) 0 :=
  ⟨Int.le_refl 0, Int.le_refl 0, .inl rfl, rfl, fun _ => ⟨init_good .., rfl, (by rcases (show tries = 0 ∨ 0 < tries by omega) with e | e; exact .inl e; exact .inr e), (by decide : (0 : Int) < 23)⟩, fun e => by cases e⟩
end
end Go.Proofs.YtmafdjhjmnghcaaGreat
