/- law14: Run.act. -/
import Derived.Test.YtjghenomeindcaaPoolX
set_option linter.unusedVariables false
set_option linter.unusedSimpArgs false
namespace Go.Lf
def SB (R : PRun) : Prop := ∀ t, t < 6 → 0 ≤ R.steps t ∧ R.steps t ≤ 3
theorem SB.go {c : Cfg} {R : PRun} {t : Nat} {o : PO} {x : Int} (h : SB R) (hi : PInv c R) (ht : t < 6) (ho : R.ops t = some o) : SB (R.go c t o x) := by
  obtain ⟨s1, s2⟩ := hi.stp ht ho
  have h1 := h t ht
  have hpc := (hi.op t o ht ho).1.pc
  have key : ∀ v : Int, 0 ≤ v ∧ v ≤ 3 → ∀ u, u < 6 → 0 ≤ pup R.steps t v u ∧ pup R.steps t v u ≤ 3 := fun v hv u hu => by
    by_cases e : u = t
    · subst e; rw [pup_me]; exact hv
    · rw [pup_ne e]; exact h u hu
  unfold PRun.go
  split
  · exact key 1 ⟨by decide, by decide⟩
  · split
    · rename_i e; exact key _ (by rw [s1 e]; decide)
    · split
      · exact key _ (by rw [s2 (by omega)]; decide)
      · exact key _ (by rw [s2 (by omega)]; decide)
/-- A step of thread t, begun where it must be. -/
def PRun.beg (c : Cfg) (R : PRun) (t : Nat) (g : Bool) (ht : Nat) : PRun :=
  match R.ops t, (if g then (R.mine t).head? else none) with
  | some _, _ => R
  | none, some x => R.begG t ((c.hs[x.toNat - 1]?).getD 0) x
  | none, none => R.begT t ht
def PRun.step1 (c : Cfg) (R : PRun) (t : Nat) : PRun :=
  match R.ops t with
  | some o => R.go c t o ((R.s.ws[o.at c]?).getD 0)
  | none => R
def PRun.act (c : Cfg) (R : PRun) (t : Nat) (g : Bool) (ht : Nat) : PRun := (R.beg c t g ht).step1 c t
theorem PInv.begs {c : Cfg} {R : PRun} {t : Nat} (h : PInv c R) (hok : c.ok) (ht : t < 6) (g : Bool) {k : Nat} (k1 : 1 ≤ k) (k6 : k ≤ 6) : PInv c (R.beg c t g k) := by
  unfold PRun.beg
  cases ho : R.ops t with
  | some o => exact h
  | none =>
    cases hm : (if g then (R.mine t).head? else none) with
    | none => exact h.begT ht ho k1 k6
    | some x =>
      have hmx : (R.mine t).head? = some x := by
        cases g with
        | true => exact hm
        | false => cases hm
      obtain ⟨h1, h2, h3⟩ := h.first ht ho hmx
      obtain ⟨y, hy⟩ : ∃ y, c.hs[x.toNat - 1]? = some y := ⟨_, List.getElem?_eq_getElem (by have : c.nT = c.hs.length := rfl; omega)⟩
      have hy6 := hok.hs y (List.mem_of_getElem? hy)
      simp only [hy, Option.getD_some]
      exact h.begG ht ho hmx hy hy6.1 hy6.2
theorem SB.begs {c : Cfg} {R : PRun} {t : Nat} (h : SB R) (g : Bool) (k : Nat) : SB (R.beg c t g k) := by
  unfold PRun.beg
  split <;> exact h
theorem PInv.steps1 {c : Cfg} {R : PRun} {t : Nat} (h : PInv c R) (hok : c.ok) (ht : t < 6) : PInv c (R.step1 c t) := by
  unfold PRun.step1
  cases ho : R.ops t with
  | none => exact h
  | some o =>
    obtain ⟨x, hx⟩ := h.word ht ho
    simp only [hx, Option.getD_some]
    exact h.step hok.nT ht ho hx
theorem SB.steps1 {c : Cfg} {R : PRun} {t : Nat} (h : SB R) (hi : PInv c R) (ht : t < 6) : SB (R.step1 c t) := by
  unfold PRun.step1
  cases ho : R.ops t with
  | none => exact h
  | some o => exact h.go hi ht ho
theorem PRun.go_log {c : Cfg} {R : PRun} {t : Nat} {o : PO} {x : Int} : (R.go c t o x).s.log.length = R.s.log.length + 1 := by
  have h : (o.st c R.s x).log.length = R.s.log.length + 1 := by
    unfold PO.st
    split
    · simp
    · split
      · simp
      · split <;> simp
  unfold PRun.go
  split
  · exact h
  · split
    · exact h
    · split <;> exact h
theorem PRun.act_log {c : Cfg} {R : PRun} {t : Nat} {g : Bool} {k : Nat} : (R.act c t g k).s.log.length ≤ R.s.log.length + 1 := by
  have h1 : (R.beg c t g k).s.log = R.s.log := by unfold PRun.beg; split <;> rfl
  unfold PRun.act PRun.step1
  cases (R.beg c t g k).ops t with
  | none => simp only [h1]; omega
  | some o =>
    have := @PRun.go_log c (R.beg c t g k) t o (((R.beg c t g k).s.ws[o.at c]?).getD 0)
    simp only [this, h1]
    omega
end Go.Lf
namespace Go.Proofs.Ytjghenomeindcaa
open Go.RowKit Go.Lf
section
variable {w0 : Frm} {w w' : World} {c : Cfg} {R : PRun} {rb pb L t : Nat} {own own' : Nat → Option Nat} {f : Nat → Nat → Value} {o : PO} {x : Int}
theorem rtake_any (h : RunAt w0 w c R rb pb L own f) (hi : PInv c R) (hb : SB R) (hok : c.ok) (hl : R.s.log.length < 1000000) (ht : t < 6) (ho : R.ops t = some o) (hgv : o.gv = false) (hx : R.s.ws[o.at c]? = some x) :
    Calls Try.prog 51 #[.pointer (some ⟨rb, 0, none⟩), .int .i64 (t : Int)] w fun e w' => e = .returned (.bool true) ∧ RunTo w0 c (R.go c t o x) rb pb L w' := by
  have hs : -1000000 < R.steps t ∧ R.steps t < 1000000 := by have := hb t ht; omega
  rcases (hi.op t o ht ho).1.pc with e | ⟨-, e | e⟩ | ⟨e, -⟩
  · cases hL : R.L (o.ht - 1) with
    | nil => exact rtake_empty h hi hok hl ht ho hgv e hx hL hs
    | cons y r => exact rtake_some h hi hok hl ht ho hgv e hx y r hL hs
  · exact rtake_under h hi hok hl ht ho hgv e hx hs
  · by_cases hw : x = o.w
    · exact rtake_yes h hi hok hl ht ho hgv e hx hw hs
    · exact rtake_no h hi hok hl ht ho hgv e hx hw hs
  · rw [hgv] at e; cases e
theorem rgive_any (h : RunAt w0 w c R rb pb L own f) (hi : PInv c R) (hb : SB R) (hok : c.ok) (hl : R.s.log.length < 1000000) (ht : t < 6) (ho : R.ops t = some o) (hgv : o.gv = true) (hx : R.s.ws[o.at c]? = some x) :
    Calls Try.prog 52 #[.pointer (some ⟨rb, 0, none⟩), .int .i64 (t : Int)] w fun e w' => e = .returned (.bool true) ∧ RunTo w0 c (R.go c t o x) rb pb L w' := by
  have hs : -1000000 < R.steps t ∧ R.steps t < 1000000 := by have := hb t ht; omega
  rcases (hi.op t o ht ho).1.pc with e | ⟨e, -⟩ | ⟨-, e | e⟩
  · exact rgive_look h hi hok hl ht ho hgv e hx hs
  · rw [hgv] at e; cases e
  · exact rgive_onto h hi hok hl ht ho hgv e hx hs
  · by_cases hw : x = o.w
    · exact rgive_yes h hi hok hl ht ho hgv e hx hw hs
    · exact rgive_no h hi hok hl ht ho hgv e hx hw hs
theorem OpAt.none_ {w : World} {pb t : Nat} {f0 f1 : Value} (h : OpAt w own c pb t none f0 f1) : f0 = .pointer none ∧ f1 = .pointer none := h
/-- An operation is under way. -/
theorem ract_on (h : RunAt w0 w c R rb pb L own f) (hi : PInv c R) (hb : SB R) (hok : c.ok) (hl : R.s.log.length < 1000000) (ht : t < 6) (ho : R.ops t = some o) (hx : R.s.ws[o.at c]? = some x) (g : Bool) (k : Int) :
    Calls Try.prog 29 #[.pointer (some ⟨rb, 0, none⟩), .int .i64 (t : Int), .bool g, .int .i64 k] w fun e w' => e = .returned (.bool true) ∧ RunTo w0 c (R.go c t o x) rb pb L w' := by
  have t0 : (0 : Int) ≤ (t : Int) := by omega
  have t6 : (t : Int) < 6 := by omega
  have hop := h.op t ht
  rw [ho] at hop
  obtain ⟨tb, m, o1, o2, ⟨e0, e1, e2⟩ | ⟨e0, e1, e2⟩⟩ := hop
  · have HT := hid (rtake_any h hi hb hok hl ht ho e2.gv hx)
    have q2 : w.cell? ⟨rb, 2 + t, none⟩ = some (.pointer (some ⟨tb, 0, none⟩)) := e0 ▸ h.cell (j := 0) (by decide) ht
    clear h hi hb ho hx o1 o2 e0 e1 e2
    go_enter Try.func29, Try.ntmps29
    go_wp2_with fail
    refine HT.out.mono ?_
    rintro e w9 ⟨rfl, hr⟩
    have HR := hid hr
    clear hr
    go_wp2
    go_ret
    exact ⟨rfl, HR.out⟩
  · have HT := hid (rgive_any h hi hb hok hl ht ho e2.gv hx)
    have q2 : w.cell? ⟨rb, 2 + t, none⟩ = some (.pointer none) := e0 ▸ h.cell (j := 0) (by decide) ht
    have q8 : w.cell? ⟨rb, 8 + t, none⟩ = some (.pointer (some ⟨tb, 0, none⟩)) := e1 ▸ h.cell (j := 1) (by decide) ht
    clear h hi hb ho hx o1 o2 e0 e1 e2
    go_enter Try.func29, Try.ntmps29
    go_wp2_with fail
    refine HT.out.mono ?_
    rintro e w9 ⟨rfl, hr⟩
    have HR := hid hr
    clear hr
    go_wp2
    go_ret
    exact ⟨rfl, HR.out⟩
end
end Go.Proofs.Ytjghenomeindcaa
