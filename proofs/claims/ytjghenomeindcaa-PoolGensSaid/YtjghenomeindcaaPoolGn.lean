/- law14: what PoolGens looks at. -/
import Derived.Test.YtjghenomeindcaaPoolSi
set_option linter.unusedVariables false
set_option linter.unusedSimpArgs false
namespace Go.Lf
/-- Thread t gives a tower back. -/
def givB (R : PRun) (t : Nat) : Bool := match R.ops t with | some o => o.gv | none => false
theorem PO.op_gv (o : PO) (x : Int) : (o.op x).gv = o.gv := by
  unfold PO.op
  repeat' split
  all_goals first | rfl | assumption | simp_all
theorem PO.st_gens {c : Cfg} {o : PO} {s : PSt} {x : Int} (h : o.pc = 4 ∨ o.pc = 5 ∨ o.pc = 7 ∨ x ≠ o.w) : (o.st c s x).gens = s.gens := by
  unfold PO.st
  split
  · rfl
  · split
    · rfl
    · split
      · rename_i h1 h2 h3
        rcases h with h | h | h | h
        · exact absurd (.inl h) h1
        · exact absurd (.inr h) h1
        · exact absurd h h2
        · exact absurd h3 h
      · rfl
theorem go_gens {c : Cfg} {R : PRun} {t : Nat} {o : PO} {x : Int} (ho : R.ops t = some o) (hp : o.pc = 4 ∨ o.pc = 5 ∨ o.pc = 6 ∨ o.pc = 7 ∨ o.pc = 8) :
    (R.go c t o x).s.gens = if o.gv = true ∧ givB (R.go c t o x) t = false then R.s.gens.set (o.tw.toNat - 1) ((R.s.gens[o.tw.toNat - 1]?).getD 0 + 1) else R.s.gens := by
  unfold PRun.go
  by_cases h4 : o.pc = 4
  · rw [if_pos h4]
    refine (PO.st_gens (.inl h4)).trans (if_neg ?_).symm
    · rintro ⟨hg, hn⟩
      have e : (o.op x) = { o with w := x, pc := 7 } := by unfold PO.op; rw [if_pos h4, if_pos hg]
      simp only [givB, pup_me, e] at hn
      rw [if_neg (by decide)] at hn
      simp only [hg] at hn
      cases hn
  · rw [if_neg h4]
    by_cases h5 : o.pc = 5 ∨ o.pc = 7
    · rw [if_pos h5]
      refine (PO.st_gens (by omega)).trans (if_neg ?_).symm
      · rintro ⟨hg, hn⟩
        simp only [givB, pup_me, PO.op_gv, hg] at hn
        cases hn
    · rw [if_neg h5]
      by_cases hx : x = o.w
      · rw [if_pos hx]
        have e : (o.st c R.s x).gens = if o.gv then R.s.gens.set (o.tw.toNat - 1) ((R.s.gens[o.tw.toNat - 1]?).getD 0 + 1) else R.s.gens := by
          unfold PO.st
          rw [if_neg (by omega), if_neg (by omega), if_pos hx]
        show (o.st c R.s x).gens = _
        rw [e]
        cases hg : o.gv with
        | false => rw [if_neg (by decide), if_neg (fun h => by cases h.1)]
        | true => rw [if_pos rfl, if_pos ⟨rfl, by simp [givB, pup_me]⟩]
      · rw [if_neg hx]
        refine (PO.st_gens (by omega)).trans (if_neg ?_).symm
        · rintro ⟨hg, hn⟩
          simp only [givB, pup_me, PO.op_gv, hg] at hn
          cases hn
theorem beg_gens (c : Cfg) (R : PRun) (t : Nat) (g : Bool) (k : Nat) : (R.beg c t g k).s.gens = R.s.gens := by
  unfold PRun.beg
  split <;> rfl
theorem act_gens {c : Cfg} {R : PRun} {t k : Nat} {g : Bool} (hi : PInv c R) (hi2 : PInv c (R.beg c t g k)) (ht : t < 6) :
    (R.act c t g k).s.gens = if givB R t = true ∧ givB (R.act c t g k) t = false then R.s.gens.set ((R.of t).toNat - 1) ((R.s.gens[(R.of t).toNat - 1]?).getD 0 + 1) else R.s.gens := by
  cases ho : R.ops t with
  | some o =>
    have e : R.beg c t g k = R := by unfold PRun.beg; rw [ho]
    have e2 : R.act c t g k = R.go c t o ((R.s.ws[o.at c]?).getD 0) := by unfold PRun.act PRun.step1; rw [e, ho]
    obtain ⟨h1, -, h2, -⟩ := hi.op t o ht ho
    have hp := h1.pc
    rw [e2, go_gens ho (by omega)]
    have e3 : givB R t = o.gv := by unfold givB; rw [ho]
    rw [e3]
    cases hg : o.gv with
    | false => rw [if_neg (fun h => by cases h.1), if_neg (fun h => by cases h.1)]
    | true => rw [h2, if_pos hg]
  | none =>
    have e3 : givB R t = false := by unfold givB; rw [ho]
    rw [e3, if_neg (fun h => by cases h.1)]
    have hb : ∃ o, (R.beg c t g k).ops t = some o ∧ o.pc = 4 := by
      unfold PRun.beg
      rw [ho]
      split
      all_goals first | exact ⟨_, pup_me, rfl⟩ | contradiction
    obtain ⟨o, h1, h2⟩ := hb
    have e : R.act c t g k = (R.beg c t g k).go c t o (((R.beg c t g k).s.ws[o.at c]?).getD 0) := by unfold PRun.act PRun.step1; rw [h1]
    rw [e]
    have : ((R.beg c t g k).go c t o (((R.beg c t g k).s.ws[o.at c]?).getD 0)).s.gens = (R.beg c t g k).s.gens := by
      unfold PRun.go
      rw [if_pos h2]
      exact PO.st_gens (.inl h2)
    rw [this, beg_gens]
/-- The counts. -/
def GnI (R : PRun) (zs : List Int) : Prop := zs.length = 64 ∧ ∀ (i : Nat) (g : Int), R.s.gens[i]? = some g → zs[i + 1]? = some g
theorem GnI.same {R R' : PRun} {zs : List Int} (h : GnI R zs) (e : R'.s.gens = R.s.gens) : GnI R' zs := ⟨h.1, fun i g hg => h.2 i g (by rw [← e]; exact hg)⟩
theorem GnI.set {R R' : PRun} {zs : List Int} (h : GnI R zs) {y : Nat} (hy : 1 ≤ y) {g0 : Int} (hg0 : R.s.gens[y - 1]? = some g0) (e : R'.s.gens = R.s.gens.set (y - 1) (g0 + 1)) : GnI R' (zs.set y (g0 + 1)) := by
  refine ⟨by rw [List.length_set]; exact h.1, fun i g hg => ?_⟩
  rw [e, List.getElem?_set] at hg
  rw [List.getElem?_set]
  by_cases hi : y - 1 = i
  · have h1 := (List.getElem?_eq_some_iff.1 (h.2 _ _ hg0)).1
    have h2 := (List.getElem?_eq_some_iff.1 hg0).1
    rw [if_pos hi, if_pos h2] at hg
    rw [if_pos (by omega), if_pos (by omega)]
    exact hg
  · rw [if_neg hi] at hg
    rw [if_neg (by omega)]
    exact h.2 i g hg
end Go.Lf
namespace Go.Proofs.Ytjghenomeindcaa
open Go.RowKit Go.Lf
section
variable {F : Frm} {w w1 w2 w' : World} {c : Cfg} {R R' : PRun} {rb pb L t : Nat} {own own' : Nat → Option Nat} {f f' : Nat → Nat → Value} {S : Nat → Prop}
/-- The run as seen from here. -/
theorem RunAt.here (h : RunAt F w c R rb pb L own f) : RunAt ⟨w, fun k => own k ≠ none⟩ w c R rb pb L own f :=
  ⟨h.head, h.orb, Keep.refl _ _, fun k e => ⟨.inr e, (h.olt k e).2⟩, h.pl, h.op, h.of, h.mine, h.stk, h.sw, h.seen, h.steps⟩
theorem RunAt.under (h0 : RunAt F w1 c R rb pb L own f) (h : RunAt ⟨w1, fun k => own k ≠ none⟩ w2 c R' rb pb L own' f') : RunAt F w2 c R' rb pb L own' f' :=
  ⟨h.head, h.orb, h0.kp.trans h.kp (fun k hk e => (h0.olt k e).1.resolve_left (by omega)), fun k e => ⟨(h.olt k e).1.elim (fun e2 => .inl (Nat.le_trans h0.kp.size e2)) (fun e2 => (h0.olt k e2).1), (h.olt k e).2⟩, h.pl, h.op, h.of, h.mine, h.stk, h.sw, h.seen, h.steps⟩
theorem RunAt.beside (h : RunAt F w c R rb pb L own f) (hk : Keep S w w') (hS : ∀ k, S k → own k = none ∧ (k < F.w.heap.size → F.M k)) : RunAt F w' c R rb pb L own f := by
  have n : ∀ t, ∀ k, S k → own k ≠ some t := fun t k e => by rw [(hS k e).1]; simp
  exact ⟨hk.at h.head (fun e => n 1 rb e h.orb), h.orb, h.kp.trans hk (fun k hlt e => (hS k e).2 hlt), fun k e => ⟨(h.olt k e).1, Nat.lt_of_lt_of_le (h.olt k e).2 hk.size⟩, h.pl.keep hk (Ext.refl _) (n 0), fun t ht => (h.op t ht).keep hk (Ext.refl _) (fun k e => ⟨n _ k e, n _ k e⟩), h.of, fun t ht => (h.mine t ht).keep hk (Ext.refl _) (n _), fun t ht => (h.stk t ht).keep hk (Ext.refl _) (n _), h.sw, h.seen, h.steps⟩
theorem RunAt.givc (h : RunAt F w c R rb pb L own f) (ht : t < 6) : (givB R t = false ∧ f 1 t = .pointer none) ∨ (givB R t = true ∧ ∃ tb, f 1 t = .pointer (some ⟨tb, 0, none⟩)) := by
  have hop := h.op t ht
  unfold givB
  cases ho : R.ops t with
  | none => rw [ho] at hop; exact .inl ⟨rfl, hop.2⟩
  | some o =>
    rw [ho] at hop
    obtain ⟨tb, m, -, -, ⟨-, h1, h2⟩ | ⟨-, h1, h2⟩⟩ := hop
    · exact .inl ⟨h2.gv, h1⟩
    · exact .inr ⟨h2.gv, tb, h1⟩
end
end Go.Proofs.Ytjghenomeindcaa
