/- EachSteps: the state of a run of both engines, as data. -/
import Derived.Test.YtihgfklajhhikaaEachOps4
import Derived.Test.YtihgfklajhhikaaTwo
set_option linter.unusedVariables false
set_option linter.unusedSimpArgs false
namespace Go.Lf
/-- An operation: entering, with k steps made, or a wait. -/
inductive EOp where
  | en (t : Int) (i : Nat) (v : Int) (k : Nat)
  | wa (t : Int) (set : Nat) (s : EWS)
/-- A slot: its number; 0 idle, 1 begun, 2 entered. -/
structure ESt where
  c : List (Int × Nat)
  ws : List Int
  log : List Acc
  ops : List EOp
def COk (c : List (Int × Nat)) (K : Nat) : Prop := ∀ (i : Nat) (p : Int × Nat), c[i]? = some p → 0 ≤ p.1 ∧ p.1 ≤ K ∧ p.2 ≤ 2 ∧ (p.2 = 2 ↔ p.1 % 2 = 1)
def EOp.ok (n : Nat) (c : List (Int × Nat)) : EOp → Prop
  | .en t i v k => 0 ≤ t ∧ t < 64 ∧ i < n ∧ 0 ≤ v ∧ v < 64 ∧ k ≤ 2 ∧ (k < 2 → ∃ x, c[i]? = some (x, 1))
  | .wa t set s => 0 ≤ t ∧ t < 64 ∧ set < 18446744073709551616 ∧ s.st ≤ 3 ∧ (s.st < 3 → s.pos < n)
def EOp.slot : EOp → Option Nat
  | .en _ i _ k => if k < 2 then some i else none
  | .wa _ _ _ => none
structure ESt.ok (S : ESt) (b n K : Nat) : Prop where
  lc : S.c.length = n
  lw : S.ws.length = b + 2 * n + 1
  wpos : ∀ x ∈ S.ws, 0 ≤ x
  vals : ∀ i, i < n → ∃ u : Nat, u < 64 ∧ S.ws[b + 2 * i + 1]? = some (u : Int)
  llog : S.log.length ≤ K
  cok : COk S.c K
  ops : ∀ (i : Nat) (o : EOp), S.ops[i]? = some o → o.ok n S.c
  solo : ∀ (i j : Nat) (o p : EOp) (s : Nat), S.ops[i]? = some o → S.ops[j]? = some p → i ≠ j → o.slot = some s → p.slot ≠ some s
theorem ESt.ok.mono {S : ESt} {b n K K' : Nat} (h : S.ok b n K) (hK : K ≤ K') : S.ok b n K' :=
  ⟨h.lc, h.lw, h.wpos, h.vals, by have := h.llog; omega, fun i p hp => by obtain ⟨a, b, c, d⟩ := h.cok i p hp; exact ⟨a, by omega, c, d⟩, h.ops, h.solo⟩
theorem COk.put {c : List (Int × Nat)} {K : Nat} (h : COk c K) {i : Nat} {x : Int} {s : Nat} (x0 : 0 ≤ x) (x1 : x ≤ K + 1) (s0 : s ≤ 2) (s1 : s = 2 ↔ x % 2 = 1) : COk (c.set i (x, s)) (K + 1) := by
  intro j p hp
  rcases set_cases hp with ⟨-, e⟩ | ⟨-, e⟩
  · subst e; exact ⟨x0, by simp only; omega, s0, s1⟩
  · obtain ⟨a, b, d, e⟩ := h j p e; exact ⟨a, by omega, d, e⟩
theorem COk.mono {c : List (Int × Nat)} {K K' : Nat} (h : COk c K) (hK : K ≤ K') : COk c K' := fun i p hp => by obtain ⟨a, b, c, d⟩ := h i p hp; exact ⟨a, by omega, c, d⟩
theorem pos_set {ws : List Int} (h : ∀ x ∈ ws, 0 ≤ x) {i : Nat} {v : Int} (hv : 0 ≤ v) : ∀ x ∈ ws.set i v, 0 ≤ x := fun x hx => by
  rcases List.mem_or_eq_of_mem_set hx with e | e
  · exact h x e
  · omega
theorem vals_set {ws : List Int} {b n j : Nat} {v : Int} (h : ∀ i, i < n → ∃ u : Nat, u < 64 ∧ ws[b + 2 * i + 1]? = some (u : Int)) (hv : (∀ i, i < n → j ≠ b + 2 * i + 1) ∨ (0 ≤ v ∧ v < 64)) : ∀ i, i < n → ∃ u : Nat, u < 64 ∧ (ws.set j v)[b + 2 * i + 1]? = some (u : Int) := by
  intro i hi
  obtain ⟨u, hu, hx⟩ := h i hi
  by_cases e : j = b + 2 * i + 1
  · rcases hv with hv | ⟨v0, v1⟩
    · exact absurd e (hv i hi)
    · exact ⟨v.toNat, by omega, by rw [e, put_self hx]; congr 1; omega⟩
  · exact ⟨u, hu, by rw [List.getElem?_set, if_neg e]; exact hx⟩
theorem EWS.step_any (set x : Int) (s : EWS) (n : Nat) (h1 : s.st ≤ 3) (h2 : s.pos < n) : (s.step n set x).st ≤ 3 ∧ ((s.step n set x).st < 3 → (s.step n set x).pos < n) := by
  have nx : ∀ u : EWS, u.pos = s.pos → (u.next n).st ≤ 3 ∧ ((u.next n).st < 3 → (u.next n).pos < n) := by
    intro u hu
    obtain ⟨a1, a2, a3⟩ := u.next_pos n
    rcases a3 with ⟨a, b⟩ | ⟨a, b⟩
    · exact ⟨by omega, fun h => by omega⟩
    · exact ⟨by omega, fun _ => by omega⟩
  rcases s.step_cases set x n with ⟨a, b, c⟩ | ⟨a, b, c⟩ | ⟨a, b, c⟩ | ⟨a, b, c⟩ | ⟨a, b, c⟩ | ⟨a, b, c⟩
  · rw [c]; exact ⟨by simp, fun _ => h2⟩
  · rw [c]; exact nx _ rfl
  · rw [c]; exact ⟨by simp, fun _ => h2⟩
  · rw [c]; exact nx _ rfl
  · rw [c]; exact ⟨h1, fun _ => h2⟩
  · rw [c]; exact nx _ rfl
/-- Operation t makes a step. -/
inductive EStep (b n : Nat) (S : ESt) (t : Nat) : ESt → Int → Bool → Prop where
  | mark {th : Int} {i : Nat} {v y : Int} (h : S.ops[t]? = some (.en th i v 0)) (hy : S.ws[((b : Int) + 2 * i + 1).toNat]? = some y) : EStep b n S t ⟨S.c, S.ws.set ((b : Int) + 2 * i + 1).toNat v, S.log ++ [⟨th, (b : Int) + 2 * i + 1, 2, y, v, false⟩], S.ops.set t (.en th i v 1)⟩ 14 false
  | seq {th : Int} {i : Nat} {v x y : Int} (h : S.ops[t]? = some (.en th i v 1)) (hx : S.c[i]? = some (x, 1)) (hy : S.ws[((b : Int) + 2 * i).toNat]? = some y) : EStep b n S t ⟨S.c.set i (x + 1, 2), S.ws.set ((b : Int) + 2 * i).toNat (x + 1), S.log ++ [⟨th, (b : Int) + 2 * i, 2, y, x + 1, false⟩], S.ops.set t (.en th i v 2)⟩ 13 true
  | idle {th : Int} {i : Nat} {v : Int} (h : S.ops[t]? = some (.en th i v 2)) : EStep b n S t S 0 false
  | wait {th : Int} {set : Nat} {s : EWS} {x : Int} (h : S.ops[t]? = some (.wa th set s)) (hs : s.st < 3) (hx : S.ws[((b : Int) + s.addr).toNat]? = some x) : EStep b n S t ⟨S.c, S.ws, S.log ++ [⟨th, (b : Int) + s.addr, 1, x, x, false⟩], S.ops.set t (.wa th set (s.step n set x))⟩ (if s.st = 0 then 17 else if s.st = 1 then 18 else if s.st = 2 then 17 else 0) ((s.step n set x).st == 3)
  | over {th : Int} {set : Nat} {s : EWS} (h : S.ops[t]? = some (.wa th set s)) (hs : s.st = 3) : EStep b n S t S 0 false

section
variable {S : ESt} {b n K : Nat}
theorem ESt.ok.one (h : S.ok b n K) {t : Nat} {o o' : EOp} (ho : S.ops[t]? = some o) {c' : List (Int × Nat)} {ws' : List Int} {log' : List Acc} (lc : c'.length = n) (lw : ws'.length = S.ws.length) (wp : ∀ x ∈ ws', 0 ≤ x) (vs : ∀ i, i < n → ∃ u : Nat, u < 64 ∧ ws'[b + 2 * i + 1]? = some (u : Int)) (ll : log'.length ≤ K + 1) (co : COk c' (K + 1)) (hok : o'.ok n c') (hold : ∀ (i : Nat) (p : EOp), i ≠ t → S.ops[i]? = some p → p.ok n c') (hsl : ∀ s, o'.slot = some s → o.slot = some s) :
    ESt.ok ⟨c', ws', log', S.ops.set t o'⟩ b n (K + 1) := by
  refine ⟨lc, lw.trans h.lw, wp, vs, ll, co, fun i p hp => ?_, fun i j p q s hp hq hij hs => ?_⟩
  · rcases set_cases hp with ⟨i1, i2⟩ | ⟨i1, i2⟩
    · subst i2; exact hok
    · exact hold i p i1 i2
  · rcases set_cases hp with ⟨i1, i2⟩ | ⟨i1, i2⟩ <;> rcases set_cases hq with ⟨j1, j2⟩ | ⟨j1, j2⟩
    · exact absurd (i1.trans j1.symm) hij
    · subst i2; exact h.solo t j o q s ho j2 (fun e => j1 e.symm) (hsl s hs)
    · subst j2; exact fun e => h.solo i t p o s i2 ho i1 hs (hsl s e)
    · exact h.solo i j p q s i2 j2 hij hs
/-- An operation makes a step, and only one. -/
theorem estep_ex (h : S.ok b n K) {t : Nat} {o : EOp} (ho : S.ops[t]? = some o) : ∃ S' pc d, EStep b n S t S' pc d ∧ S'.ok b n (K + 1) := by
  have hok := h.ops t o ho
  have lw := h.lw
  have ll := h.llog
  cases o with
  | en th i v k =>
    obtain ⟨t0, t1, hi, v0, v1, hk, hc⟩ := hok
    have : k = 0 ∨ k = 1 ∨ k = 2 := by omega
    rcases this with rfl | rfl | rfl
    · obtain ⟨y, hy⟩ : ∃ y, S.ws[((b : Int) + 2 * i + 1).toNat]? = some y := ⟨_, List.getElem?_eq_getElem (by omega)⟩
      exact ⟨_, _, _, .mark ho hy, h.one ho h.lc (by simp) (pos_set h.wpos v0) (vals_set h.vals (.inr ⟨v0, v1⟩)) (by simp; omega) (h.cok.mono (by omega)) ⟨t0, t1, hi, v0, v1, by omega, fun _ => hc (by omega)⟩ (fun i p _ hp => h.ops i p hp) (fun s hs => hs)⟩
    · obtain ⟨x, hx⟩ := hc (by omega)
      obtain ⟨y, hy⟩ : ∃ y, S.ws[((b : Int) + 2 * i).toNat]? = some y := ⟨_, List.getElem?_eq_getElem (by omega)⟩
      obtain ⟨x0, x1, -, x2⟩ := h.cok i _ hx
      simp only at x0 x1 x2
      have hev : x % 2 = 0 := by
        have : ¬ x % 2 = 1 := fun e => by have := x2.2 e; omega
        omega
      refine ⟨_, _, _, .seq ho hx hy, h.one ho (by simp [h.lc]) (by simp) (pos_set h.wpos (by omega)) (vals_set h.vals (.inl fun j hj => by omega)) (by simp; omega) (h.cok.put (by omega) (by omega) (by omega) (by constructor <;> (intro _; omega))) ⟨t0, t1, hi, v0, v1, by omega, fun h => by omega⟩ (fun j p hj hp => ?_) (fun s hs => by simp [EOp.slot] at hs)⟩
      have hp2 := h.ops j p hp
      cases p with
      | wa => exact hp2
      | en t' i' v' k' =>
        obtain ⟨a1, a2, a3, a4, a5, a6, a7⟩ := hp2
        refine ⟨a1, a2, a3, a4, a5, a6, fun hl => ?_⟩
        obtain ⟨z, hz⟩ := a7 hl
        refine ⟨z, ?_⟩
        rw [List.getElem?_set, if_neg (fun e => ?_)]
        · exact hz
        · subst e
          exact h.solo j t _ _ i hp ho hj (if_pos hl) rfl
    · exact ⟨_, _, _, .idle ho, h.mono (by omega)⟩
  | wa th set s =>
    obtain ⟨t0, t1, hs, h3, hp⟩ := hok
    by_cases e : s.st < 3
    · have hpn := hp e
      obtain ⟨x, hx⟩ : ∃ x, S.ws[((b : Int) + s.addr).toNat]? = some x := ⟨_, List.getElem?_eq_getElem (by unfold EWS.addr; split <;> omega)⟩
      obtain ⟨q1, q2⟩ := EWS.step_any set x s n h3 hpn
      exact ⟨_, _, _, .wait ho e hx, h.one ho h.lc rfl h.wpos h.vals (by simp; omega) (h.cok.mono (by omega)) ⟨t0, t1, hs, q1, q2⟩ (fun i p _ hp => h.ops i p hp) (fun s hs => by simp [EOp.slot] at hs)⟩
    · exact ⟨_, _, _, .over ho (by omega), h.mono (by omega)⟩
/-- A slot is begun. -/
def ESt.begun (S : ESt) (t : Int) (i : Nat) (v x : Int) : ESt := ⟨S.c.set i (x, 1), S.ws, S.log, S.ops ++ [.en t i v 0]⟩
def ESt.left (S : ESt) (b : Nat) (t : Int) (i : Nat) (x y : Int) : ESt := ⟨S.c.set i (x + 1, 0), S.ws.set ((b : Int) + 2 * i).toNat (x + 1), S.log ++ [⟨t, (b : Int) + 2 * i, 2, y, x + 1, false⟩], S.ops⟩
def ESt.waits (S : ESt) (t : Int) (set : Nat) : ESt := ⟨S.c, S.ws, S.log, S.ops ++ [.wa t set ⟨0, 0, 0⟩]⟩
theorem ESt.ok.begun (h : S.ok b n K) {t v x : Int} {i : Nat} (t0 : 0 ≤ t) (t1 : t < 64) (v0 : 0 ≤ v) (v1 : v < 64) (hx : S.c[i]? = some (x, 0)) : (S.begun t i v x).ok b n (K + 1) := by
  obtain ⟨x0, x1, -, x3⟩ := h.cok i _ hx
  simp only at x0 x1 x3
  have hi : i < n := by have := (List.getElem?_eq_some_iff.1 hx).1; have := h.lc; omega
  have live : ∀ (j : Nat) (p : EOp), S.ops[j]? = some p → p.slot ≠ some i := by
    intro j p hp hs
    have hok := h.ops j p hp
    cases p with
    | wa => simp [EOp.slot] at hs
    | en t' i' v' k' =>
      simp only [EOp.slot] at hs
      split at hs
      · rename_i hk
        simp only [Option.some.injEq] at hs
        subst hs
        obtain ⟨-, -, -, -, -, -, h7⟩ := hok
        obtain ⟨z, hz⟩ := h7 hk
        rw [hx] at hz; cases hz
      · cases hs
  refine ⟨by simp [ESt.begun, h.lc], h.lw, h.wpos, h.vals, by have := h.llog; show S.log.length ≤ K + 1; omega, h.cok.put x0 (by omega) (by omega) (by constructor <;> (intro _; omega)), fun j p hp => ?_, fun j k p q s hp hq hjk hs => ?_⟩
  · rcases get_snoc hp with ⟨e1, e2⟩ | ⟨e1, e2⟩
    · subst e2
      exact ⟨t0, t1, hi, v0, v1, by omega, fun _ => ⟨x, put_self hx _⟩⟩
    · have hp2 := h.ops j p e2
      cases p with
      | wa => exact hp2
      | en t' i' v' k' =>
        obtain ⟨a1, a2, a3, a4, a5, a6, a7⟩ := hp2
        refine ⟨a1, a2, a3, a4, a5, a6, fun hl => ?_⟩
        obtain ⟨z, hz⟩ := a7 hl
        refine ⟨z, ?_⟩
        show (S.c.set i (x, 1))[i']? = _
        rw [List.getElem?_set, if_neg (fun e => live j _ e2 (by rw [e]; exact if_pos hl))]
        exact hz
  · rcases get_snoc hp with ⟨e1, e2⟩ | ⟨e1, e2⟩ <;> rcases get_snoc hq with ⟨e3, e4⟩ | ⟨e3, e4⟩
    · exact absurd (e1.trans e3.symm) hjk
    · subst e2
      have : i = s := by simpa [EOp.slot] using hs
      subst this
      exact live k q e4
    · subst e4
      intro e
      have : i = s := by simpa [EOp.slot] using e
      subst this
      exact live j p e2 hs
    · exact h.solo j k p q s e2 e4 hjk hs
theorem ESt.ok.left (h : S.ok b n K) {t x y : Int} {i : Nat} (hx : S.c[i]? = some (x, 2)) : (S.left b t i x y).ok b n (K + 1) := by
  obtain ⟨x0, x1, -, x3⟩ := h.cok i _ hx
  simp only at x0 x1 x3
  have hodd := x3.1 trivial
  refine ⟨by simp [ESt.left, h.lc], by simp [ESt.left, h.lw], pos_set h.wpos (by omega), vals_set h.vals (.inl fun j hj => by omega), by have := h.llog; simp [ESt.left]; omega, h.cok.put (by omega) (by omega) (by omega) (by constructor <;> (intro _; omega)), fun j p hp => ?_, h.solo⟩
  have hp2 := h.ops j p hp
  cases p with
  | wa => exact hp2
  | en t' i' v' k' =>
    obtain ⟨a1, a2, a3, a4, a5, a6, a7⟩ := hp2
    refine ⟨a1, a2, a3, a4, a5, a6, fun hl => ?_⟩
    obtain ⟨z, hz⟩ := a7 hl
    refine ⟨z, ?_⟩
    show (S.c.set i (x + 1, 0))[i']? = _
    rw [List.getElem?_set, if_neg (fun e => by subst e; rw [hx] at hz; cases hz)]
    exact hz
theorem ESt.ok.waits (h : S.ok b n K) (hn : 0 < n) {t : Int} {set : Nat} (t0 : 0 ≤ t) (t1 : t < 64) (hs : set < 18446744073709551616) : (S.waits t set).ok b n (K + 1) := by
  refine ⟨h.lc, h.lw, h.wpos, h.vals, by have := h.llog; show S.log.length ≤ K + 1; omega, h.cok.mono (by omega), fun j p hp => ?_, fun j k p q s hp hq hjk hs => ?_⟩
  · rcases get_snoc hp with ⟨e1, e2⟩ | ⟨e1, e2⟩
    · subst e2; exact ⟨t0, t1, hs, by simp, fun _ => hn⟩
    · exact h.ops j p e2
  · rcases get_snoc hp with ⟨e1, e2⟩ | ⟨e1, e2⟩ <;> rcases get_snoc hq with ⟨e3, e4⟩ | ⟨e3, e4⟩
    · exact absurd (e1.trans e3.symm) hjk
    · subst e2; simp [EOp.slot] at hs
    · subst e4; intro e; simp [EOp.slot] at e
    · exact h.solo j k p q s e2 e4 hjk hs
end
end Go.Lf
