/- EachProgress: rounds in which sections are left and operations end; then a wait beside sections that do not concern it. -/
import Derived.Test.YtihgfklajhhikaaEachPlay2
namespace Go.Lf
open Go.Proofs.Ytihgfklajhhikaa
/-- A thread after r rounds. -/
def PP (r : Nat) (x : ET) : Prop := r = 0 ∨ (x.en = none ∧ (r = 1 ∨ (x.inn = false ∧ ∀ b s, x.wt = some (b, s) → r ≤ 3 * s.pos + s.st + 2)))
/-- The threads below t have had one round more. -/
def QQ (r t : Nat) (th : List ET) : Prop := ∀ (j : Nat) (x : ET), th[j]? = some x → PP (if j < t then r + 1 else r) x
theorem QQ.wrap {r : Nat} {th : List ET} (h : QQ r 6 th) (hl : th.length = 6) : QQ (r + 1) 0 th := by
  intro j x hx
  have := h j x hx
  rw [if_pos (by have := lt_of_at hx; omega)] at this
  rw [if_neg (by omega)]
  exact this
theorem QQ.put {r t : Nat} {th : List ET} (h : QQ r t th) {x' : ET} (hx : PP (r + 1) x') : QQ r (t + 1) (th.set t x') := by
  intro j x hj
  rcases set_cases hj with ⟨e1, e2⟩ | ⟨e1, e2⟩
  · subst e1; subst e2
    rw [if_pos (by omega)]; exact hx
  · have := h j x e2
    by_cases hjt : j < t
    · rw [if_pos hjt] at this; rw [if_pos (by omega)]; exact this
    · rw [if_neg hjt] at this; rw [if_neg (by omega)]; exact this
theorem QQ.skip {r t : Nat} {th : List ET} (h : QQ r t th) (hx : ∀ x, th[t]? = some x → PP (r + 1) x) : QQ r (t + 1) th := by
  intro j x hj
  by_cases e : j = t
  · subst e; rw [if_pos (by omega)]; exact hx x hj
  · have := h j x hj
    by_cases hjt : j < t
    · rw [if_pos hjt] at this; rw [if_pos (by omega)]; exact this
    · rw [if_neg hjt] at this; rw [if_neg (by omega)]; exact this
theorem QQ.quiet {r t : Nat} {th : List ET} (h : QQ r t th) (hr : 2 ≤ r) {j : Nat} {x : ET} (hx : th[j]? = some x) : x.inn = false ∧ x.en = none := by
  rcases h j x hx with h | ⟨h1, h | h⟩
  · split at h <;> omega
  · split at h <;> omega
  · exact ⟨h.1, h1⟩
variable {sl : List (Int × Bool)} {ws : List Int} {th : List ET} {K : Int}
/-- The word that a wait loads is even where the thread is in no section. -/
theorem EInv.even (h : EInv sl ws th K) {s : EWS} {y : Int} (hp : s.pos < 6) (hst : s.st ≠ 1) (hy : ws[s.addr]? = some y) (hin : ∀ z, th[s.pos]? = some z → z.inn = false) : y % 2 = 0 := by
  obtain ⟨z, hz⟩ : ∃ z, th[s.pos]? = some z := ⟨_, List.getElem?_eq_getElem (by have := h.lt; omega)⟩
  obtain ⟨⟨n, b⟩, hn⟩ : ∃ p, sl[s.pos]? = some p := ⟨_, List.getElem?_eq_getElem (by have := h.ln; omega)⟩
  have a := h.num _ z n b hz hn
  have hs := a.seq
  unfold EWS.addr at hy
  rw [if_neg hst, Nat.add_zero, hs] at hy
  have := (EInv.nn a).2.2.2 (hin z hz)
  simp only [Option.some.injEq] at hy
  omega
theorem step_grow (set y : Int) (s : EWS) (h1 : s.st < 3) (h3 : s.st ≠ 0 → s.seen % 2 = 1) (hev : s.st ≠ 1 → y % 2 = 0) : 3 * s.pos + s.st + 1 ≤ 3 * (s.step 6 set y).pos + (s.step 6 set y).st := by
  have nx : ∀ u : EWS, u.pos = s.pos → 3 * s.pos + s.st + 1 ≤ 3 * (u.next 6).pos + (u.next 6).st := by
    intro u hu
    obtain ⟨a1, -, -⟩ := u.next_pos 6
    omega
  rcases s.step_cases set y 6 with ⟨a, b, c⟩ | ⟨a, b, c⟩ | ⟨a, b, c⟩ | ⟨a, b, c⟩ | ⟨a, b, c⟩ | ⟨a, b, c⟩
  · have := hev (by omega); omega
  · rw [c]; exact nx _ rfl
  · rw [c]; simp only; omega
  · rw [c]; exact nx _ rfl
  · have := hev (by omega); have := h3 (by omega); omega
  · rw [c]; exact nx _ rfl
end Go.Lf
namespace Go.Proofs.Ytihgfklajhhikaa
open Go.RowKit Go.Lf
section
variable {w wr : World} {rb g sb cb mb : Nat} {F : Nat → Prop} {sl : List (Int × Bool)} {ws : List Int} {th : List ET} {log : List Acc}
def GoodQ (w : World) (rb g sb cb mb K r t : Nat) (w' : World) : Prop := ∃ sl ws th F log, ERunAt w w' rb g sb cb mb F sl ws th log ∧ EInv sl ws th K ∧ log.length ≤ K ∧ SetsOk th ∧ QQ r t th

/-- In a round a thread that enters goes on, one that is in a section leaves it, and one that waits makes a step. -/
theorem round_act (h : ERunAt w wr rb g sb cb mb F sl ws th log) {K r t : Nat} (hI : EInv sl ws th K) (hl : log.length ≤ K) (hS : SetsOk th) (hK : K < 1000000) (ht : t < 6) (hQ : QQ r t th) {x : ET} (hx : th[t]? = some x) (hbusy : x.en ≠ none ∨ x.wt ≠ none ∨ x.inn = true) :
    Calls Try.prog 30 #[.pointer (some ⟨rb, 0, none⟩), .int .i64 t, .int .u8 0, .int .i64 0, .int .u64 1] wr fun e w' => e = .returned (.bool true) ∧ GoodQ w rb g sb cb mb (K + 1) r (t + 1) w' := by
  obtain ⟨⟨n, bg⟩, hn⟩ : ∃ p, sl[t]? = some p := ⟨_, List.getElem?_eq_getElem (by have := hI.ln; omega)⟩
  have a := hI.num t x n bg hx hn
  obtain ⟨nn0, nn1, nnI, nnO⟩ := EInv.nn a
  have s0 := a.s0
  have s1 := a.s1
  have hK1 : ((K + 1 : Nat) : Int) = (K : Int) + 1 := by omega
  have hP := hQ t x hx
  rw [if_neg (by omega)] at hP
  cases hen : x.en with
  | some p =>
    obtain ⟨eb, k⟩ := p
    obtain ⟨rfl, e2, e3⟩ := a.en eb k hen
    obtain rfl : r = 0 := by
      rcases hP with hP | ⟨hP, -⟩
      · exact hP
      · rw [hen] at hP; cases hP
    refine eact_en h t x eb 1 hx hen 0 0 1 ((erenter_seq h t x eb hx hen n bg hn nn0 (by omega) (by omega) s0 (by omega)).mono ?_)
    rintro e w' ⟨rfl, F', log', hr, hl'⟩
    exact ⟨rfl, _, _, _, F', log', hr, by rw [hK1]; exact hI.seq hx hn hen, by omega, hS.put (hS t x hx), hQ.put (.inr ⟨rfl, .inl rfl⟩)⟩
  | none =>
    cases hwt : x.wt with
    | some p =>
      obtain ⟨b, u⟩ := p
      obtain ⟨a1, a2, a3, a4, a5, qb, l, a6, a7, a8⟩ := hI.wait t x b u hx hwt
      obtain ⟨y, hy, y0, y1⟩ := hI.word u a4
      obtain ⟨z0, z1⟩ := hS t x hx
      refine eact_wait h t x b u hx hen hwt 0 0 1 ((erwait_ok h t x b u hx hwt a3 a4 y hy y0 y1 qb l a6 (by omega) z0 z1 (fun he => hI.ends hx hwt a6 hy he)).mono ?_)
      rintro e w' ⟨rfl, F', log', hr, hl'⟩
      refine ⟨rfl, _, _, _, F', log', hr, (hI.wstep hx hwt hy).mono (by omega), by omega, hS.put (hS t x hx), hQ.put (.inr ⟨hen, ?_⟩)⟩
      by_cases hr2 : 2 ≤ r
      · refine .inr ⟨a1, fun b' s' hb' => ?_⟩
        simp only at hb'
        split at hb'
        · cases hb'
        · simp only [Option.some.injEq, Prod.mk.injEq] at hb'
          obtain ⟨rfl, rfl⟩ := hb'
          have hg := step_grow x.set y u a3 a5 (fun hne => hI.even a4 hne hy (fun z hz => (hQ.quiet hr2 hz).1))
          rcases hP with hP | ⟨-, hP | ⟨-, hP⟩⟩
          · omega
          · omega
          · have := hP b u hwt; omega
      · by_cases hr1 : r = 0
        · exact .inl (by omega)
        · exact .inr ⟨a1, fun b' s' _ => by omega⟩
    | none =>
      have hin : x.inn = true := by
        rcases hbusy with h | h | h
        · exact absurd hen h
        · exact absurd hwt h
        · exact h
      refine (eact_exit h t x hx hen hwt hin 0 0 1 (by decide) (by decide) n bg hn nn0 (by omega) (nnI hin) (by omega)).mono ?_
      rintro e w' ⟨rfl, F', log', hr, hl'⟩
      exact ⟨rfl, _, _, _, F', log', hr, (hI.exit hx hn hin hwt).mono (by omega), by omega, hS.put (hS t x hx), hQ.put (.inr ⟨hen, .inr ⟨rfl, fun b s h => by simp only at h; rw [hwt] at h; cases h⟩⟩)⟩

/-! The wait of the last thread, beside sections with a value that does not concern it. -/
structure EBeside (sl : List (Int × Bool)) (ws : List Int) (th : List ET) (set : Nat) (n : Nat) (x5 : ET) (live : Option (Nat × EWS)) : Prop where
  at5 : th[5]? = some x5
  inn5 : x5.inn = false
  en5 : x5.en = none
  set5 : x5.set = set
  wt5 : x5.wt = live
  form : ∀ b s, live = some (b, s) → n ≤ 2 * s.pos + s.st ∧ s.st ≤ 1 ∧ (s.st = 1 → ∃ v, ws[2 * s.pos + 1]? = some v ∧ conc set v = false)
  rest : ∀ (j : Nat) (x : ET), th[j]? = some x → j ≠ 5 → x.wt = none ∧ (x.inn = true ∨ x.en ≠ none → conc (set : Int) x.val = false)
def GoodE (w : World) (rb g sb cb mb : Nat) (set K n : Nat) (live : Bool) (w' : World) : Prop := ∃ sl ws th F log x5 lv, ERunAt w w' rb g sb cb mb F sl ws th log ∧ EInv sl ws th K ∧ log.length ≤ K ∧ SetsOk th ∧ EBeside sl ws th set n x5 lv ∧ lv.isSome = live

/-- The wait's step. -/
theorem beside_step {set n : Nat} {x5 : ET} {b : Nat} {s : EWS} {K : Int} (hI : EInv sl ws th K) (hB : EBeside sl ws th set n x5 (some (b, s))) {y : Int} (hy : ws[s.addr]? = some y) (hp : s.pos < 6) :
    (s.step 6 set y).st ≠ 2 ∧ n + 1 ≤ 2 * (s.step 6 set y).pos + (s.step 6 set y).st ∧ ((s.step 6 set y).st = 1 → ∃ v, ws[2 * (s.step 6 set y).pos + 1]? = some v ∧ conc set v = false) := by
  obtain ⟨f1, f2, f3⟩ := hB.form b s rfl
  have nx : ∀ u : EWS, u.pos = s.pos → (u.next 6).st ≠ 2 ∧ n + 1 ≤ 2 * (u.next 6).pos + (u.next 6).st ∧ ((u.next 6).st = 1 → ∃ v, ws[2 * (u.next 6).pos + 1]? = some v ∧ conc set v = false) := by
    intro u hu
    obtain ⟨a1, -, a3⟩ := u.next_pos 6
    refine ⟨?_, by omega, fun h => ?_⟩
    · rcases a3 with a | a <;> omega
    · rcases a3 with a | a <;> omega
  unfold EWS.addr at hy
  rcases s.step_cases set y 6 with ⟨a, b', c⟩ | ⟨a, b', c⟩ | ⟨a, b', c⟩ | ⟨a, b', c⟩ | ⟨a, b', c⟩ | ⟨a, b', c⟩
  · rw [c]
    refine ⟨by simp, by simp only; omega, fun _ => ?_⟩
    simp only
    rw [if_neg (by omega), Nat.add_zero] at hy
    obtain ⟨z, hz⟩ : ∃ z, th[s.pos]? = some z := ⟨_, List.getElem?_eq_getElem (by have := hI.lt; omega)⟩
    obtain ⟨⟨m, bg⟩, hn⟩ : ∃ p, sl[s.pos]? = some p := ⟨_, List.getElem?_eq_getElem (by have := hI.ln; omega)⟩
    have e := hI.num _ z m bg hz hn
    rw [e.seq] at hy
    simp only [Option.some.injEq] at hy
    have hin : z.inn = true := by
      cases h : z.inn with
      | true => rfl
      | false => have := (EInv.nn e).2.2.2 h; omega
    have h5 : s.pos ≠ 5 := fun h => by
      have := hB.at5; rw [← h, hz] at this
      obtain rfl := Option.some.inj this
      rw [hB.inn5] at hin; cases hin
    obtain ⟨-, hr⟩ := hB.rest _ z hz h5
    obtain ⟨v, k1, -, -, k4⟩ := e.val
    exact ⟨v, k1, by rw [k4 (.inl hin)]; exact hr (.inl hin)⟩
  · rw [c]; exact nx _ rfl
  · rw [if_pos a] at hy
    obtain ⟨v, k1, k2⟩ := f3 a
    rw [k1] at hy
    simp only [Option.some.injEq] at hy
    rw [hy] at k2
    rw [k2] at b'; cases b'
  · rw [c]; exact nx _ rfl
  · omega
  · omega

theorem prog_first (h : ERunAt w wr rb g sb cb mb F sl ws th log) {K : Nat} (hI : EInv sl ws th K) (hl : log.length ≤ K) (hS : SetsOk th) (hK : K < 1000000) (set : Nat) (hq : ∀ (j : Nat) (x : ET), th[j]? = some x → x.wt = none ∧ (j = 5 → x.inn = false ∧ x.en = none) ∧ (x.inn = true ∨ x.en ≠ none → conc (set : Int) x.val = false)) (hs : set ≠ 0) (hs1 : set < 18446744073709551616) :
    Calls Try.prog 30 #[.pointer (some ⟨rb, 0, none⟩), .int .i64 5, .int .u8 2, .int .i64 0, .int .u64 set] wr fun e w' => e = .returned (.bool true) ∧ GoodE w rb g sb cb mb set (K + 1) 1 true w' := by
  obtain ⟨x, hx⟩ : ∃ x, th[5]? = some x := ⟨_, List.getElem?_eq_getElem (by have := hI.lt; omega)⟩
  obtain ⟨hwt, h5, -⟩ := hq 5 x hx
  obtain ⟨hin, hen⟩ := h5 rfl
  obtain ⟨y, hy, y0, -⟩ := hI.word ⟨0, 0, 0⟩ (by simp)
  refine (eact_begin h 5 x hx hen hwt hin 2 0 set (by decide) (by decide) hs hs1 y hy y0 (by omega) hI.vals).mono ?_
  rintro e w' ⟨rfl, b, qb, F', log', hr, hl'⟩
  have hI' : EInv sl ws (th.set 5 { x with wt := some (b, EWS.step 6 set y ⟨0, 0, 0⟩), set := (set : Int), mu := some (qb, eList th set 6) }) ((K + 1 : Nat) : Int) := (hI.wbegin hx hen hin hy).mono (by omega)
  have hB0 : EBeside sl ws (th.set 5 { x with wt := some (b, ⟨0, 0, 0⟩), set := (set : Int) }) set 0 { x with wt := some (b, ⟨0, 0, 0⟩), set := (set : Int) } (some (b, ⟨0, 0, 0⟩)) :=
    ⟨put_self hx _, hin, hen, rfl, rfl, fun b' s' hb => by
      simp only [Option.some.injEq, Prod.mk.injEq] at hb
      obtain ⟨rfl, rfl⟩ := hb
      exact ⟨by omega, by simp, fun h => by simp at h⟩, fun j z hz hj => by
      rcases set_cases hz with ⟨e1, e2⟩ | ⟨e1, e2⟩
      · exact absurd e1 hj
      · exact ⟨(hq j z e2).1, (hq j z e2).2.2⟩⟩
  have hI0 : EInv sl ws (th.set 5 { x with wt := some (b, ⟨0, 0, 0⟩), set := (set : Int), mu := some (qb, eList th set 6) }) (K : Int) := by
    refine hI.turn hx rfl rfl rfl rfl hen ?_
    intro b' s' hb'
    simp only [Option.some.injEq, Prod.mk.injEq] at hb'
    obtain ⟨rfl, rfl⟩ := hb'
    exact ⟨hin, by simp, by simp, fun h => absurd rfl h, qb, eList th set 6, rfl, eList_len th set 6, eahead_begin hI set 0⟩
  have hB0' : EBeside sl ws (th.set 5 { x with wt := some (b, ⟨0, 0, 0⟩), set := (set : Int), mu := some (qb, eList th set 6) }) set 0 { x with wt := some (b, ⟨0, 0, 0⟩), set := (set : Int), mu := some (qb, eList th set 6) } (some (b, ⟨0, 0, 0⟩)) :=
    ⟨put_self hx _, hin, hen, rfl, rfl, hB0.form, fun j z hz hj => by
      rcases set_cases hz with ⟨e1, e2⟩ | ⟨e1, e2⟩
      · exact absurd e1 hj
      · exact ⟨(hq j z e2).1, (hq j z e2).2.2⟩⟩
  obtain ⟨g1, g2, g3⟩ := beside_step hI0 hB0' hy (by simp)
  have hf := efirst_step (set : Int) y
  refine ⟨rfl, sl, ws, _, F', log', _, _, hr, hI', by omega, hS.put ⟨by simp only; omega, by simp only; omega⟩, ⟨put_self hx _, hin, hen, rfl, rfl, fun b' s' hb => ?_, fun j z hz hj => ?_⟩, rfl⟩
  · simp only [Option.some.injEq, Prod.mk.injEq] at hb
    obtain ⟨rfl, rfl⟩ := hb
    exact ⟨by omega, by omega, g3⟩
  · rcases set_cases hz with ⟨e1, e2⟩ | ⟨e1, e2⟩
    · exact absurd e1 hj
    · exact ⟨(hq j z e2).1, (hq j z e2).2.2⟩

theorem prog_next {set K n : Nat} (hG : GoodE w rb g sb cb mb set K n true wr) (hK : K < 1000000) (s0 : Int) :
    Calls Try.prog 30 #[.pointer (some ⟨rb, 0, none⟩), .int .i64 5, .int .u8 2, .int .i64 0, .int .u64 s0] wr fun e w' => e = .returned (.bool true) ∧ ∃ live, GoodE w rb g sb cb mb set (K + 1) (n + 1) live w' := by
  obtain ⟨sl, ws, th, F, log, x, lv, h, hI, hl, hS, hB, hlv⟩ := hG
  obtain ⟨⟨b, u⟩, rfl⟩ := Option.isSome_iff_exists.1 hlv
  have hx := hB.at5
  have hwt := hB.wt5
  obtain ⟨a1, a2, a3, a4, a5, qb, l, a6, a7, a8⟩ := hI.wait 5 x b u hx hwt
  obtain ⟨y, hy, y0, y1⟩ := hI.word u a4
  obtain ⟨z0, z1⟩ := hS 5 x hx
  obtain ⟨g1, g2, g3⟩ := beside_step hI hB hy a4
  obtain ⟨k1, k2⟩ := EWS.step_form x.set y u a3 a4 a5
  rw [hB.set5] at k1 k2
  refine eact_wait h 5 x b u hx hB.en5 hwt 2 0 s0 ((erwait_ok h 5 x b u hx hwt a3 a4 y hy y0 y1 qb l a6 (by omega) z0 z1 (fun he => hI.ends hx hwt a6 hy he)).mono ?_)
  rintro e w' ⟨rfl, F', log', hr, hl'⟩
  refine ⟨rfl, _, _, _, _, F', log', _, _, hr, (hI.wstep hx hwt hy).mono (by omega), by omega, hS.put (hS 5 x hx), ⟨put_self hx _, a1, hB.en5, hB.set5, rfl, fun b' s' hb => ?_, fun j z hz hj => ?_⟩, rfl⟩
  · split at hb
    · cases hb
    · rename_i hne
      simp only [Option.some.injEq, Prod.mk.injEq] at hb
      obtain ⟨rfl, rfl⟩ := hb
      rw [hB.set5] at hne ⊢
      have := (k2 hne).1
      exact ⟨by omega, by omega, g3⟩
  · rcases set_cases hz with ⟨e1, e2⟩ | ⟨e1, e2⟩
    · exact absurd e1 hj
    · exact hB.rest j z e2 hj

/-- Another thread enters or leaves sections that do not concern the wait. -/
theorem prog_other {set other K n : Nat} {lv : Bool} (hG : GoodE w rb g sb cb mb set K n lv wr) (hK : K < 1000000) (t : Nat) (ht : t < 5) (ho : other < 64) (hq : conc (set : Int) (other : Int) = false) :
    Calls Try.prog 30 #[.pointer (some ⟨rb, 0, none⟩), .int .i64 t, .int .u8 0, .int .i64 other, .int .u64 1] wr fun e w' => e = .returned (.bool true) ∧ GoodE w rb g sb cb mb set (K + 1) n lv w' := by
  obtain ⟨sl, ws, th, F, log, x5, lw, h, hI, hl, hS, hB, hlv⟩ := hG
  obtain ⟨x, hx⟩ : ∃ x, th[t]? = some x := ⟨_, List.getElem?_eq_getElem (by have := hI.lt; omega)⟩
  obtain ⟨⟨m, bg⟩, hn⟩ : ∃ p, sl[t]? = some p := ⟨_, List.getElem?_eq_getElem (by have := hI.ln; omega)⟩
  have a := hI.num t x m bg hx hn
  obtain ⟨nn0, nn1, nnI, nnO⟩ := EInv.nn a
  have s0 := a.s0
  have s1 := a.s1
  have hK1 : ((K + 1 : Nat) : Int) = (K : Int) + 1 := by omega
  obtain ⟨hwt, hval⟩ := hB.rest t x hx (by omega)
  -- what stands beside when thread t and its words turn
  have key : ∀ (x' : ET) (sl' : List (Int × Bool)) (ws' : List Int), x'.wt = none → (x'.inn = true ∨ x'.en ≠ none → conc (set : Int) x'.val = false) → (∀ p v, ws[2 * p + 1]? = some v → conc set v = false → ∃ v', ws'[2 * p + 1]? = some v' ∧ conc set v' = false) → EBeside sl' ws' (th.set t x') set n x5 lw := by
    intro x' sl' ws' h1 h2 h3
    refine ⟨by rw [List.getElem?_set, if_neg (by omega)]; exact hB.at5, hB.inn5, hB.en5, hB.set5, hB.wt5, fun b s hb => ?_, fun j z hz hj => ?_⟩
    · obtain ⟨f1, f2, f3⟩ := hB.form b s hb
      exact ⟨f1, f2, fun h => by obtain ⟨v, k1, k2⟩ := f3 h; exact h3 _ v k1 k2⟩
    · rcases set_cases hz with ⟨e1, e2⟩ | ⟨e1, e2⟩
      · subst e2; exact ⟨h1, h2⟩
      · exact hB.rest j z e2 hj
  have lw12 := hI.lw
  have same : ∀ n', ∀ p v, ws[2 * p + 1]? = some v → conc set v = false → ∃ v', (ws.set (2 * t) n')[2 * p + 1]? = some v' ∧ conc set v' = false := fun n' p v h1 h2 =>
    ⟨v, by rw [List.getElem?_set, if_neg (by omega)]; exact h1, h2⟩
  cases hen : x.en with
  | some p =>
    obtain ⟨eb, k⟩ := p
    obtain ⟨rfl, e2, e3⟩ := a.en eb k hen
    refine eact_en h t x eb 1 hx hen 0 other 1 ((erenter_seq h t x eb hx hen m bg hn nn0 (by omega) (by omega) s0 (by omega)).mono ?_)
    rintro e w' ⟨rfl, F', log', hr, hl'⟩
    exact ⟨rfl, _, _, _, F', log', x5, lw, hr, by rw [hK1]; exact hI.seq hx hn hen, by omega, hS.put (hS t x hx), key _ _ _ hwt (fun _ => hval (.inr (by rw [hen]; simp))) (same _), hlv⟩
  | none =>
    cases hin : x.inn with
    | true =>
      refine (eact_exit h t x hx hen hwt hin 0 other 1 (by decide) (by decide) m bg hn nn0 (by omega) (nnI hin) (by omega)).mono ?_
      rintro e w' ⟨rfl, F', log', hr, hl'⟩
      exact ⟨rfl, _, _, _, F', log', x5, lw, hr, (hI.exit hx hn hin hwt).mono (by omega), by omega, hS.put (hS t x hx), key _ _ _ hwt (fun h => by
        rcases h with h | h
        · simp at h
        · exact absurd hen h) (same _), hlv⟩
    | false =>
      obtain rfl : bg = false := by rw [a.beg, hen]; rfl
      refine (eact_enter h t x hx hen hwt hin 0 other 1 (by decide) (by decide) (by omega) (by omega) m hn nn0 (nnO hin) (by omega)).mono ?_
      rintro e w' ⟨rfl, eb, F', log', hr, hl'⟩
      refine ⟨rfl, _, _, _, F', log', x5, lw, hr, (hI.mark hx hn hin hwt (by omega) (by omega) eb).mono (by omega), by omega, hS.put (hS t x hx), key _ _ _ hwt (fun _ => hq) (fun p v h1 h2 => ?_), hlv⟩
      by_cases e : p = t
      · subst e; exact ⟨other, by rw [List.getElem?_set, if_pos rfl, if_pos (by omega)], hq⟩
      · exact ⟨v, by rw [List.getElem?_set, if_neg (by omega)]; exact h1, h2⟩
end
end Go.Proofs.Ytihgfklajhhikaa
