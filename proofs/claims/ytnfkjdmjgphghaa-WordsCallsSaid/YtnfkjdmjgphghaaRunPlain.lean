/- The calls of a run in plain terms: words and log after each. -/
import Derived.Test.YtnfkjdmjgphghaaReplayPlain
import Derived.Test.YtnfkjdmjgphghaaDo
namespace Go.Lf
open Go.RowKit

def U64 (x : Int) : Prop := 0 ≤ x ∧ x < 18446744073709551616
theorem U64.wrap (x : Int) : U64 (IntKind.u64.wrap x) := by rw [IntKind.wrap_u64]; exact ⟨by omega, by omega⟩
theorem U64.of_wf {x : Int} (h : (Lit.int .u64 x).wf = true) : U64 x := by
  simp [Lit.wf, IntKind.min, IntKind.max, IntKind.signed, IntKind.bits] at h
  exact ⟨by omega, by omega⟩
theorem U64.succ_ne {x : Int} (h : U64 x) : x ≠ IntKind.u64.wrap (x + 1) := by
  rw [IntKind.wrap_u64]; obtain ⟨h0, h1⟩ := h; omega
def I64 (x : Int) : Prop := -9223372036854775808 ≤ x ∧ x ≤ 9223372036854775807
theorem I64.of_wf {x : Int} (h : (Lit.int .i64 x).wf = true) : I64 x := by
  simp [Lit.wf, IntKind.min, IntKind.max, IntKind.signed, IntKind.bits] at h
  exact ⟨by omega, by omega⟩
def U8 (x : Int) : Prop := 0 ≤ x ∧ x ≤ 255
theorem U8.of_wf {x : Int} (h : (Lit.int .u8 x).wf = true) : U8 x := by
  simp [Lit.wf, IntKind.min, IntKind.max, IntKind.signed, IntKind.bits] at h
  exact ⟨by omega, by omega⟩

/-- The word at an address. -/
def gv (ws : List Int) (a : Int) : Int := (ws[a.toNat]?).getD 0
theorem gv_at {ws : List Int} {a : Int} (h0 : 0 ≤ a) (h1 : a < (ws.length : Int)) : ws[a.toNat]? = some (gv ws a) := by
  unfold gv
  rw [List.getElem?_eq_getElem (by omega)]
  rfl

/-- The access that a call makes, if any. -/
def accOf (ws : List Int) (x : Do) : Option Acc :=
  if x.w % 5 = 0 then some ⟨x.t % 64, x.a % ws.length, 1, gv ws (x.a % ws.length), gv ws (x.a % ws.length), false⟩
  else if x.w % 5 = 1 then some ⟨x.t % 64, x.a % ws.length, 2, gv ws (x.a % ws.length), x.v, false⟩
  else if x.w % 5 = 2 then some ⟨x.t % 64, x.a % ws.length, 3, gv ws (x.a % ws.length), IntKind.u64.wrap (gv ws (x.a % ws.length) + x.v), false⟩
  else if x.w % 5 = 3 then
    (if gv ws (x.a % ws.length) = x.o then some ⟨x.t % 64, x.a % ws.length, 4, gv ws (x.a % ws.length), x.v, true⟩
      else some ⟨x.t % 64, x.a % ws.length, 4, gv ws (x.a % ws.length), gv ws (x.a % ws.length), false⟩)
  else none

def stepM (s : List Int × List Acc) (x : Do) : List Int × List Acc :=
  match accOf s.1 x with
  | some c => (s.1.set c.a.toNat c.n, s.2 ++ [c])
  | none => s
def runM (ws : List Int) (l : List Do) : List Int × List Acc := l.foldl stepM (ws, [])

theorem stepM_length (s : List Int × List Acc) (x : Do) : (stepM s x).1.length = s.1.length := by
  unfold stepM
  split <;> simp
theorem stepM_log (s : List Int × List Acc) (x : Do) : (stepM s x).2.length ≤ s.2.length + 1 := by
  unfold stepM
  split <;> simp
theorem runM_snoc (ws : List Int) (l : List Do) (x : Do) : runM ws (l ++ [x]) = stepM (runM ws l) x := by simp [runM]
theorem runM_take {ws : List Int} {l : List Do} {k : Nat} {x : Do} (h : l[k]? = some x) : runM ws (l.take (k + 1)) = stepM (runM ws (l.take k)) x := by
  obtain ⟨hk, rfl⟩ := List.getElem?_eq_some_iff.1 h
  rw [List.take_succ_eq_append_getElem hk, runM_snoc]
theorem runM_length (ws : List Int) (l : List Do) : (runM ws l).1.length = ws.length := by
  unfold runM
  suffices h : ∀ s : List Int × List Acc, (l.foldl stepM s).1.length = s.1.length from h _
  induction l with
  | nil => intro s; rfl
  | cons x l ih => intro s; rw [List.foldl_cons, ih, stepM_length]
theorem runM_log (ws : List Int) (l : List Do) : (runM ws l).2.length ≤ l.length := by
  unfold runM
  suffices h : ∀ s : List Int × List Acc, (l.foldl stepM s).2.length ≤ s.2.length + l.length by have := h (ws, []); simpa using this
  induction l with
  | nil => intro s; simp
  | cons x l ih => intro s; rw [List.foldl_cons]; have := ih (stepM s x); have := stepM_log s x; simp at *; omega

theorem stepM_0 {s : List Int × List Acc} {x : Do} (h0 : 0 < s.1.length) (h : x.w % 5 = 0) :
    stepM s x = (s.1, s.2 ++ [⟨x.t % 64, x.a % s.1.length, 1, gv s.1 (x.a % s.1.length), gv s.1 (x.a % s.1.length), false⟩]) := by
  have e := gv_at (ws := s.1) (a := x.a % s.1.length) (Int.emod_nonneg _ (by omega)) (Int.emod_lt_of_pos _ (by omega))
  simp [stepM, accOf, h, set_self e]
theorem stepM_1 {s : List Int × List Acc} {x : Do} (h : x.w % 5 = 1) :
    stepM s x = (s.1.set (x.a % s.1.length).toNat x.v, s.2 ++ [⟨x.t % 64, x.a % s.1.length, 2, gv s.1 (x.a % s.1.length), x.v, false⟩]) := by
  simp [stepM, accOf, h]
theorem stepM_2 {s : List Int × List Acc} {x : Do} (h : x.w % 5 = 2) :
    stepM s x = (s.1.set (x.a % s.1.length).toNat (IntKind.u64.wrap (gv s.1 (x.a % s.1.length) + x.v)), s.2 ++ [⟨x.t % 64, x.a % s.1.length, 3, gv s.1 (x.a % s.1.length), IntKind.u64.wrap (gv s.1 (x.a % s.1.length) + x.v), false⟩]) := by
  simp [stepM, accOf, h]
theorem stepM_3y {s : List Int × List Acc} {x : Do} (h : x.w % 5 = 3) (hg : gv s.1 (x.a % s.1.length) = x.o) :
    stepM s x = (s.1.set (x.a % s.1.length).toNat x.v, s.2 ++ [⟨x.t % 64, x.a % s.1.length, 4, x.o, x.v, true⟩]) := by
  simp [stepM, accOf, h, hg]
theorem stepM_3n {s : List Int × List Acc} {x : Do} (h0 : 0 < s.1.length) (h : x.w % 5 = 3) (hg : gv s.1 (x.a % s.1.length) ≠ x.o) :
    stepM s x = (s.1, s.2 ++ [⟨x.t % 64, x.a % s.1.length, 4, gv s.1 (x.a % s.1.length), gv s.1 (x.a % s.1.length), false⟩]) := by
  have e := gv_at (ws := s.1) (a := x.a % s.1.length) (Int.emod_nonneg _ (by omega)) (Int.emod_lt_of_pos _ (by omega))
  simp [stepM, accOf, h, hg, set_self e]
theorem stepM_4 {s : List Int × List Acc} {x : Do} (h : x.w % 5 = 4) : stepM s x = s := by
  simp [stepM, accOf, h]

theorem mem_set {α : Type} {l : List α} {i : Nat} {x y : α} (h : y ∈ l.set i x) : y = x ∨ y ∈ l := by
  rcases List.mem_or_eq_of_mem_set h with h | h
  · exact .inr h
  · exact .inl h

theorem stepM_u64 {s : List Int × List Acc} {x : Do} (h : ∀ v ∈ s.1, U64 v) (hx : x.wf) (h0 : 0 < s.1.length) : ∀ v ∈ (stepM s x).1, U64 v := by
  have hg : U64 (gv s.1 (x.a % s.1.length)) := by
    have e := gv_at (ws := s.1) (a := x.a % s.1.length) (Int.emod_nonneg _ (by omega)) (Int.emod_lt_of_pos _ (by omega))
    exact h _ (List.mem_of_getElem? e)
  have hv : U64 x.v := U64.of_wf hx.2.2.2.2
  intro v hv'
  unfold stepM at hv'
  split at hv'
  · rename_i c hc
    rcases mem_set hv' with rfl | hm
    · unfold accOf at hc
      split at hc
      · simp at hc; subst hc; exact hg
      · split at hc
        · simp at hc; subst hc; exact hv
        · split at hc
          · simp at hc; subst hc; exact U64.wrap _
          · split at hc
            · split at hc
              · simp at hc; subst hc; exact hv
              · simp at hc; subst hc; exact hg
            · cases hc
    · exact h v hm
  · exact h v hv'
theorem runM_u64 {ws : List Int} {l : List Do} (h : ∀ v ∈ ws, U64 v) (hl : ∀ x ∈ l, x.wf) (h0 : 0 < ws.length) : ∀ v ∈ (runM ws l).1, U64 v := by
  unfold runM
  suffices hs : ∀ s : List Int × List Acc, (∀ v ∈ s.1, U64 v) → 0 < s.1.length → ∀ v ∈ (l.foldl stepM s).1, U64 v from hs _ h h0
  induction l with
  | nil => intro s h _; exact h
  | cons x l ih =>
    intro s h hp
    rw [List.foldl_cons]
    exact ih (fun y hy => hl y (List.mem_cons_of_mem _ hy)) _ (stepM_u64 h (hl x (List.mem_cons_self ..)) hp) (by rw [stepM_length]; exact hp)
end Go.Lf
