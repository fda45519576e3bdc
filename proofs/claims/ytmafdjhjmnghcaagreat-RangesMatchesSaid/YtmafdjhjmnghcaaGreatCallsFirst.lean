/- A region that draws its order: a call that leaves every world as it is, and returns one value, may be made first. -/
import Derived.OrdersHeld
import Derived.Deep.RegionHeld3
import Derived.WalkKit
set_option linter.unusedVariables false
set_option linter.unusedSimpArgs false
namespace Go.Lf
open Go
section
variable {P : Program} {ops : Array Oper} {Q : Exit → Act → World → Prop} {md : Region.Mode} {S : World → Prop} {o oi oj : Oper} {v : Value} {a : Act} {w : World} {i j : Nat} {K : Act → World → Prop}
/-- The operation is a call that returns v in every world and leaves it. -/
def Rets (P : Program) (ops : Array Oper) (o : Oper) (v : Value) (a : Act) : Prop :=
  Region.wanted o (yielded ops a.tmps) = true ∧ ∃ f args, (∀ w, (execOp a.eval o).run P w = .ok (.enter f args) w) ∧ ∀ w, Calls P f args w fun e w' => e = .returned v ∧ w = w'
theorem Rets.run (hy : Rets P ops o v a) (hi : ops[i]? = some o) (h : K (a.put o.dst v) w) : wpOp P ops Q i K a w := by
  obtain ⟨hw, f, args, hr, hc⟩ := hy
  unfold wpOp
  rw [hi]
  show (if Region.wanted o (yielded ops a.tmps) = true then _ else _)
  rw [if_pos hw]
  refine .inl ?_
  unfold Oper.wp
  rw [hr w, Oper.upon_enter]
  refine (hc w).mono ?_
  rintro e w' ⟨rfl, rfl⟩
  exact h
theorem Rets.put (hy : Rets P ops oi v a) (hs : ∀ cs b, oi.op ≠ .select cs b) {dst : Option Tmp} (u : Value) (h3 : ∀ d, dst = some d → d ∉ oi.looksAt ops) : Rets P ops oi v (a.put dst u) := by
  unfold Rets at *
  rw [execOp_put oi hs a dst u h3, wanted_put oi a dst u h3]
  exact hy
/-- Another operation may come ahead of it. -/
theorem Rets.swap (hy : Rets P ops oi v a) (hj : ops[j]? = some oj) (hap : oi.apart ops oj = true) (hsi : ∀ cs b, oi.op ≠ .select cs b) (hsj : ∀ cs b, oj.op ≠ .select cs b)
    (hQ : ∀ c a w, Q (.panic c) (a.put oi.dst v) w → Q (.panic c) a w) (h : wpOp P ops Q j K (a.put oi.dst v) w) :
    wpOp P ops Q j (fun a' w' => Rets P ops oi v a' ∧ K (a'.put oi.dst v) w') a w := by
  obtain ⟨s1, s2, s3⟩ := Oper.apart_spec hap
  have both : ∀ b, Rets P ops oi v b → ∀ u w', K ((b.put oi.dst v).put oj.dst u) w' → Rets P ops oi v (b.put oj.dst u) ∧ K ((b.put oj.dst u).put oi.dst v) w' := fun b hb u w' hk =>
    ⟨hb.put hsi u s3, by rw [← Act.put_comm b v u s2]; exact hk⟩
  unfold wpOp at h ⊢
  rw [hj] at h ⊢
  change (if Region.wanted oj (yielded ops (a.put oi.dst v).tmps) = true then _ else _) at h
  show (if Region.wanted oj (yielded ops a.tmps) = true then _ else _)
  rw [wanted_put oj a oi.dst v s1] at h
  by_cases hw : Region.wanted oj (yielded ops a.tmps) = true
  · rw [if_pos hw] at h ⊢
    rcases h with h | ⟨h1, h2⟩
    · refine .inl ?_
      unfold Oper.wp at h ⊢
      rw [execOp_put oj hsj a oi.dst v s1] at h
      revert h
      generalize (execOp a.eval oj).run P w = r
      intro h
      cases r with
      | ok n w1 =>
        cases n with
        | value u => exact both a hy u w1 h
        | skip => exact both a hy undef w1 h
        | defer d =>
          have e : ({ a.put oi.dst v with defers := d :: (a.put oi.dst v).defers } : Act) = ({ a with defers := d :: a.defers } : Act).put oi.dst v := by cases oi.dst <;> rfl
          have h' : K (({ a.put oi.dst v with defers := d :: (a.put oi.dst v).defers } : Act).put oj.dst undef) w1 := h
          rw [e] at h'
          exact both { a with defers := d :: a.defers } hy undef w1 h'
        | enter f args =>
          refine Calls.mono h fun e w2 he => ?_
          cases e with
          | returned u => exact both a hy u w2 he
          | panicked c => exact hQ _ _ _ he
          | outgrown => exact he
        | row r args => exact Rows.mono h fun u w2 he => both a hy u w2 he
        | _ => exact (h : False).elim
      | halt x w1 =>
        cases x with
        | panic u => exact hQ _ _ _ h
        | _ => exact (h : False).elim
    · refine .inr ⟨?_, h2⟩
      unfold Oper.asks at h1 ⊢
      rw [execOp_put oj hsj a oi.dst v s1] at h1
      exact h1
  · rw [if_neg hw] at h ⊢
    exact both a hy undef w h
theorem rets_first (hi : ops[i]? = some oi) (hsel : ∀ (j : Nat) (o : Oper) cs b, ops[j]? = some o → o.op ≠ .select cs b) (hQ : ∀ c a w, Q (.panic c) (a.put oi.dst v) w → Q (.panic c) a w) :
    ∀ (fuel : Nat) (listed : Array Bool) (a : Act) (w : World), (∀ j oj, ops[j]? = some oj → j ≠ i → listed.getD j true = false → (∀ e ∈ oj.after, Region.binds md e = true → e.on ≠ i) → oi.apart ops oj = true) →
      i ∈ Region.ready md ops listed → Rets P ops oi v a → S w → wpAnyH P md ops Q S fuel (listed.setIfInBounds i true) (a.put oi.dst v) w → wpAnyH P md ops Q S (fuel + 1) listed a w := by
  intro fuel
  induction fuel with
  | zero =>
    intro listed a w _ hr hy hS H
    refine ⟨fun h => absurd (h ▸ hr) (by simp), fun j hj => ?_⟩
    by_cases e : j = i
    · subst e; exact hy.run hi ⟨hS, H⟩
    · exact absurd (H.1 ▸ ready_mono hj e) (by simp)
  | succ n ih =>
    intro listed a w hfree hr hy hS H
    refine ⟨fun h => absurd (h ▸ hr) (by simp), fun j hj => ?_⟩
    by_cases e : j = i
    · subst e; exact hy.run hi ⟨hS, H⟩
    · obtain ⟨hun, oj, hoj, hall⟩ := mem_ready.1 hj
      have hno : ∀ e ∈ oj.after, Region.binds md e = true → e.on ≠ i := fun x hx hb hxi => by
        have h1 := hall x hx hb
        rw [hxi] at h1
        have h2 := (mem_ready.1 hr).1
        by_cases hl : i < listed.size
        · simp [hl] at h1 h2; rw [h1] at h2; cases h2
        · simp [Array.getElem?_eq_none (Nat.le_of_not_lt hl)] at h1
      have hstep := Rets.swap hy hoj (hfree j oj hoj e hun hno) (fun cs b => hsel i oi cs b hi) (fun cs b => hsel j oj cs b hoj) hQ (H.2 j (ready_mono hj e))
      refine wpOp_mono (fun a' w' ⟨h1, h2, h3⟩ => ⟨h2, ih _ a' w' (fun k ok hk hki hkun hkno => hfree k ok hk hki ?_ hkno) (ready_mono hr (Ne.symm e)) h1 h2 ?_⟩) hstep
      · by_cases hjk : j = k
        · subst hjk; exact hun
        · rw [getD_set_ne true hjk] at hkun; exact hkun
      · rw [Array.setIfInBounds_comm _ _ e]
        exact h3
/-- The move of a walk. -/
theorem rets_take {fuel : Nat} {listed : Array Bool} (hi : ops[i]? = some oi) (hs : Region.noSelect ops = true) (hf : Region.free md ops listed i = true) (hr : (Region.ready md ops listed).contains i = true)
    (hQ : ∀ c a w, Q (.panic c) (a.put oi.dst v) w → Q (.panic c) a w) (hy : Rets P ops oi v a) (hS : S w) (h : wpAnyH P md ops Q S fuel (listed.setIfInBounds i true) (a.put oi.dst v) w) : wpAnyH P md ops Q S (fuel + 1) listed a w :=
  rets_first hi (Region.noSelect_spec hs) hQ fuel listed a w (Region.free_spec hi hf) (by simpa using hr) hy hS h
end
end Go.Lf
