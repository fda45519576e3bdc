/- ranges: the state of a locking. Plain. -/
import Derived.Test.YtmafdjhjmnghcaaGreatDomPlain
set_option linter.unusedVariables false
set_option linter.unusedSimpArgs false
namespace Go.Lf
open Go.RowKit
structure KS where
  th : Int
  lo : Int
  hi : Int
  tries : Int
  fails : Int
  entry : Int
  free : Int
  low : Int
  conf : Bool
  next : Int
  err : Int
/-- A locking that begins. -/
def KS.init (t lo hi tr : Int) : KS := ⟨t, lo, hi, tr, 0, 0, 0, 0, false, 2, 0⟩
def KS.again (s : KS) : KS × Int := if s.fails = s.tries then ({ s with err := 11 }, 0) else (s, 2)
def KS.clash (s : KS) : KS × Int := ({ s with fails := s.fails + 1, conf := true }, 3)
def KS.follow (lk : Int) (s : KS) : KS × Int :=
  if s.entry + 1 < lk then ({ s with entry := s.entry + 1 }, 37)
  else if s.free < 0 then ({ s with entry := s.entry + 1 } : KS).clash
  else ({ s with entry := s.entry + 1 }, 40)
/-- What a step does that finds the word x, and what comes next. -/
def KS.act (lk : Int) (s : KS) (x : Int) : KS × Int :=
  if s.next = 2 then (if x = 0 then ({ s with entry := 0, free := -1, conf := false }, 37) else ({ s with fails := s.fails + 1 } : KS).again)
  else if s.next = 37 then (if x = 0 then ({ s with free := if s.free < 0 then s.entry else s.free } : KS).follow lk else (s, 38))
  else if s.next = 38 then ({ s with low := x }, 39)
  else if s.next = 39 then (if s.low ≤ s.hi ∧ s.lo ≤ x then s.clash else s.follow lk)
  else if s.next = 40 then (s, 41)
  else if s.next = 41 then (s, 42)
  else if s.next = 42 then (s, 3)
  else (if s.conf = true then s.again else (s, 0))
def KS.step (lk : Int) (s : KS) (x : Int) : KS := { (s.act lk x).1 with next := (s.act lk x).2 }
/-- Where a step reads or stores. -/
def KS.at (M T : Nat) (s : KS) : Nat :=
  if s.next = 2 then M else if s.next = 37 then T + 3 * s.entry.toNat else if s.next = 38 then T + 3 * s.entry.toNat + 1 else if s.next = 39 then T + 3 * s.entry.toNat + 2
  else if s.next = 40 then T + 3 * s.free.toNat + 1 else if s.next = 41 then T + 3 * s.free.toNat + 2 else if s.next = 42 then T + 3 * s.free.toNat else M
/-- What it stores. -/
def KS.put (s : KS) (x : Int) : Option Int :=
  if s.next = 2 then (if x = 0 then some (s.th + 1) else none)
  else if s.next = 40 then some s.lo else if s.next = 41 then some s.hi else if s.next = 42 then some 1 else if s.next = 3 then some 0 else none
/-- The access that it makes. -/
def KS.acc (M T : Nat) (s : KS) (x : Int) : Acc :=
  if s.next = 2 then (if x = 0 then ⟨s.th, (s.at M T : Nat), 4, 0, s.th + 1, true⟩ else ⟨s.th, (s.at M T : Nat), 4, x, x, false⟩)
  else match s.put x with
    | some v => ⟨s.th, (s.at M T : Nat), 2, x, v, false⟩
    | none => ⟨s.th, (s.at M T : Nat), 1, x, x, false⟩
def KS.ws (M T : Nat) (s : KS) (ws : List Int) (x : Int) : List Int := match s.put x with | some v => ws.set (s.at M T) v | none => ws
/-- A locking under way. -/
structure KS.good (lk : Int) (s : KS) : Prop where
  nx : s.next = 2 ∨ s.next = 37 ∨ s.next = 38 ∨ s.next = 39 ∨ s.next = 40 ∨ s.next = 41 ∨ s.next = 42 ∨ s.next = 3
  en : s.next = 37 ∨ s.next = 38 ∨ s.next = 39 → 0 ≤ s.entry ∧ s.entry < lk
  fr : -1 ≤ s.free ∧ s.free < lk
  fs : s.next = 40 ∨ s.next = 41 ∨ s.next = 42 → 0 ≤ s.free
  fl : 0 ≤ s.fails ∧ s.fails < 1000000
  t0 : 0 ≤ s.th ∧ s.th < 64
  l0 : 0 ≤ s.lo ∧ s.lo < 18446744073709551616
  h0 : 0 ≤ s.hi ∧ s.hi < 18446744073709551616
theorem KS.again_good {lk : Int} {s : KS} (hfr : -1 ≤ s.free ∧ s.free < lk) (hfl : 0 ≤ s.fails ∧ s.fails < 1000000) (ht : 0 ≤ s.th ∧ s.th < 64) (hl : 0 ≤ s.lo ∧ s.lo < 18446744073709551616) (hh : 0 ≤ s.hi ∧ s.hi < 18446744073709551616) (hn : s.again.2 ≠ 0) : ({ s.again.1 with next := s.again.2 } : KS).good lk := by
  unfold KS.again at hn ⊢
  split
  · rename_i h; rw [if_pos h] at hn; exact absurd rfl hn
  · exact ⟨.inl rfl, fun e => (by rcases e with e | e | e <;> cases e), hfr, fun e => (by rcases e with e | e | e <;> cases e), hfl, ht, hl, hh⟩
theorem KS.clash_good {lk : Int} {s : KS} (hfr : -1 ≤ s.free ∧ s.free < lk) (hfl : 0 ≤ s.fails ∧ s.fails + 1 < 1000000) (ht : 0 ≤ s.th ∧ s.th < 64) (hl : 0 ≤ s.lo ∧ s.lo < 18446744073709551616) (hh : 0 ≤ s.hi ∧ s.hi < 18446744073709551616) : ({ s.clash.1 with next := s.clash.2 } : KS).good lk :=
  ⟨.inr (.inr (.inr (.inr (.inr (.inr (.inr rfl)))))), fun e => (by rcases e with e | e | e <;> cases e), hfr, fun e => (by rcases e with e | e | e <;> cases e), ⟨by show 0 ≤ s.fails + 1; omega, hfl.2⟩, ht, hl, hh⟩
theorem KS.follow_good {lk : Int} {s : KS} (he : 0 ≤ s.entry) (hfr : -1 ≤ s.free ∧ s.free < lk) (hfl : 0 ≤ s.fails ∧ s.fails + 1 < 1000000) (ht : 0 ≤ s.th ∧ s.th < 64) (hl : 0 ≤ s.lo ∧ s.lo < 18446744073709551616) (hh : 0 ≤ s.hi ∧ s.hi < 18446744073709551616) : ({ (s.follow lk).1 with next := (s.follow lk).2 } : KS).good lk := by
  unfold KS.follow
  split
  · rename_i h
    exact ⟨.inr (.inl rfl), fun _ => ⟨by show 0 ≤ s.entry + 1; omega, h⟩, hfr, fun e => (by rcases e with e | e | e <;> cases e), ⟨hfl.1, by have := hfl.2; show s.fails < _; omega⟩, ht, hl, hh⟩
  · split
    · exact KS.clash_good (s := { s with entry := s.entry + 1 }) hfr hfl ht hl hh
    · rename_i h2
      exact ⟨.inr (.inr (.inr (.inr (.inl rfl)))), fun e => (by rcases e with e | e | e <;> cases e), hfr, fun _ => by show 0 ≤ s.free; omega, ⟨hfl.1, by have := hfl.2; show s.fails < _; omega⟩, ht, hl, hh⟩
theorem KS.step_good {lk : Int} {s : KS} {x : Int} (h : s.good lk) (hf : s.fails + 1 < 1000000) (h1 : 1 ≤ lk) (hn : (s.step lk x).next ≠ 0) : (s.step lk x).good lk := by
  have hfl := h.fl
  unfold KS.step at hn ⊢
  unfold KS.act at hn ⊢
  rcases h.nx with e | e | e | e | e | e | e | e
  · rw [if_pos e] at hn ⊢
    split
    · exact ⟨.inr (.inl rfl), fun _ => ⟨Int.le_refl 0, by show (0 : Int) < lk; omega⟩, ⟨by show (-1 : Int) ≤ -1; omega, by show (-1 : Int) < lk; omega⟩, fun e => (by rcases e with e | e | e <;> cases e), hfl, h.t0, h.l0, h.h0⟩
    · rename_i h2; rw [if_neg h2] at hn
      exact KS.again_good (s := { s with fails := s.fails + 1 }) h.fr ⟨by show 0 ≤ s.fails + 1; omega, hf⟩ h.t0 h.l0 h.h0 hn
  · rw [if_neg (by omega), if_pos e]
    have he := h.en (by omega)
    split
    · refine KS.follow_good (s := { s with free := if s.free < 0 then s.entry else s.free }) he.1 ?_ ⟨hfl.1, hf⟩ h.t0 h.l0 h.h0
      show -1 ≤ (if s.free < 0 then s.entry else s.free) ∧ (if s.free < 0 then s.entry else s.free) < lk
      have := h.fr
      split <;> omega
    · exact ⟨.inr (.inr (.inl rfl)), fun _ => he, h.fr, fun e => (by rcases e with e | e | e <;> cases e), hfl, h.t0, h.l0, h.h0⟩
  · rw [if_neg (by omega), if_neg (by omega), if_pos e]
    exact ⟨.inr (.inr (.inr (.inl rfl))), fun _ => h.en (by omega), h.fr, fun e => (by rcases e with e | e | e <;> cases e), hfl, h.t0, h.l0, h.h0⟩
  · rw [if_neg (by omega), if_neg (by omega), if_neg (by omega), if_pos e]
    split
    · exact KS.clash_good h.fr ⟨hfl.1, hf⟩ h.t0 h.l0 h.h0
    · exact KS.follow_good (h.en (by omega)).1 h.fr ⟨hfl.1, hf⟩ h.t0 h.l0 h.h0
  · rw [if_neg (by omega), if_neg (by omega), if_neg (by omega), if_neg (by omega), if_pos e]
    exact ⟨.inr (.inr (.inr (.inr (.inr (.inl rfl))))), fun e => (by rcases e with e | e | e <;> cases e), h.fr, fun _ => h.fs (by omega), hfl, h.t0, h.l0, h.h0⟩
  · rw [if_neg (by omega), if_neg (by omega), if_neg (by omega), if_neg (by omega), if_neg (by omega), if_pos e]
    exact ⟨.inr (.inr (.inr (.inr (.inr (.inr (.inl rfl)))))), fun e => (by rcases e with e | e | e <;> cases e), h.fr, fun _ => h.fs (by omega), hfl, h.t0, h.l0, h.h0⟩
  · rw [if_neg (by omega), if_neg (by omega), if_neg (by omega), if_neg (by omega), if_neg (by omega), if_neg (by omega), if_pos e]
    exact ⟨.inr (.inr (.inr (.inr (.inr (.inr (.inr rfl)))))), fun e => (by rcases e with e | e | e <;> cases e), h.fr, fun e => (by rcases e with e | e | e <;> cases e), hfl, h.t0, h.l0, h.h0⟩
  · rw [if_neg (by omega), if_neg (by omega), if_neg (by omega), if_neg (by omega), if_neg (by omega), if_neg (by omega), if_neg (by omega)] at hn ⊢
    split
    · rename_i h2; rw [if_pos h2] at hn; exact KS.again_good h.fr hfl h.t0 h.l0 h.h0 hn
    · rename_i h2; rw [if_neg h2] at hn; exact absurd rfl hn
/-- The result of a locking. -/
def KS.res (s : KS) : Int × Int × Int := if s.next ≠ 0 then (0, 0, 8) else if s.err ≠ 0 then (0, s.fails, s.err) else (s.free, s.fails, 0)
end Go.Lf
