/- PoolSteps: what a step needs, on either side. -/
import Derived.Test.YtjghenomeindcaaGreatPoolQ
import Derived.Test.YtjghenomeindcaaGreatPoolE
import Derived.Test.YtjghenomeindcaaGreatRef14S
import Derived.Test.YtjghenomeindcaaGreatRef14L
set_option linter.unusedVariables false
set_option linter.unusedSimpArgs false
namespace Go.Lf
theorem RGo.pgo {c : Cfg} {s : PSt} {o : PO} {x : Int} (h : RGo c s o x) : PGo c s o x :=
  ⟨h.g4, fun hp => by
    rcases h.pc with e | ⟨e, e1⟩ | ⟨e, e1⟩
    · omega
    · exact ⟨(h.tk e (by omega)).1, (h.tk e (by omega)).2.1⟩
    · exact h.gv e, h.g5, h.gw, h.g6, fun hp => by
    have hgv : o.gv = true := by rcases h.pc with e | ⟨e, e1⟩ | ⟨e, e1⟩ <;> first | exact e | omega
    exact ⟨(h.gv hgv).1, (h.gv hgv).2, (h.g8 hp).2⟩⟩
theorem QInv.rgo {c : Cfg} {s : PSt} {ops : List PO} {L : Nat → List Int} {sw : Nat → Int} {j : Nat} {o : PO} {x : Int} (h : QInv c s ops L sw) (hn : c.nT ≤ 1024) (hl : s.log.length < 1000000) (ho : ops[j]? = some o) (hp : o.pc ≠ 0) (hx : s.ws[o.at c]? = some x) : RGo c s o x := by
  obtain ⟨⟨seen, steps, h1⟩, hfl⟩ := (h.op j o ho).resolve_left hp
  have ht1 : 1 ≤ o.ht := h1.ht1
  have ht6 : o.ht ≤ 6 := h1.ht6
  have th0 : 0 ≤ o.th := h1.th0
  have th1 : o.th < 64 := h1.th1
  have fl0 : 0 ≤ o.fl := h1.fl
  have hk : o.ht - 1 < 6 := by omega
  have hpe : c.pools + o.ht - 1 = c.pools + (o.ht - 1) := by omega
  have hpc : o.pc = 4 ∨ (o.gv = false ∧ (o.pc = 5 ∨ o.pc = 6)) ∨ (o.gv = true ∧ (o.pc = 7 ∨ o.pc = 8)) := h1.pc
  have hgw : o.gv = true → 1 ≤ o.tw ∧ o.tw ≤ c.nT ∧ c.hs[o.tw.toNat - 1]? = some o.ht := h1.gw
  have htk : o.gv = false → o.pc ≠ 4 → 1 ≤ o.tw ∧ o.tw ≤ c.nT ∧ o.tw = o.w % 65536 := h1.tk
  have hsw := h.swl _ hk
  have hld : o.pc ≠ 4 → o.w / 65536 = seen ∧ 0 ≤ seen ∧ seen ≤ sw (o.ht - 1) ∧ o.w % 65536 ≤ c.nT ∧ (seen = sw (o.ht - 1) → s.ws[c.pools + o.ht - 1]? = some o.w) := h1.ld
  have hgw' : o.pc ≠ 4 → 0 ≤ o.w ∧ o.w / 65536 < 1099511627775 := fun hp => by
    obtain ⟨l1, l2, l3, l4, l5⟩ := hld hp
    omega
  have hat : o.pc ≠ 5 ∧ o.pc ≠ 7 → o.at c = c.pools + (o.ht - 1) := fun e => POk.at_ne (c := c) (o := o.er) h1 e
  refine ⟨th0, th1, ht1, ht6, by omega, hpc, fun e => ?_, fun e => ?_, htk, fun e => ⟨(hgw e).1, (hgw e).2.1⟩, hgw', fun e => ?_, fun e => ?_, fun e => ?_⟩
  · rw [hat (by omega)] at hx
    obtain ⟨a, b, x0⟩ := h.si.at_head hn hk hx
    obtain ⟨q1, q2⟩ := h.si.hdle hk
    omega
  · have hgv : o.gv = false := by rcases hpc with e1 | ⟨e1, -⟩ | ⟨-, e1⟩ <;> first | exact e1 | omega
    obtain ⟨t1, t2, -⟩ := htk hgv (by omega)
    have ha : o.at c = c.links + o.tw.toNat - 1 := by unfold PO.at; rw [if_pos (.inl e)]
    rw [ha] at hx
    obtain ⟨y, hy, y0, y1⟩ := h.si.lo (o.tw.toNat - 1) (by omega)
    rw [show c.links + (o.tw.toNat - 1) = c.links + o.tw.toNat - 1 by omega, hx] at hy
    obtain rfl : x = y := by simpa using hy
    omega
  · have hbl : 0 ≤ o.bl ∧ o.bl ≤ c.nT ∧ (seen = sw (o.ht - 1) → ∃ r, L (o.ht - 1) = o.tw :: r ∧ o.bl = hd0 r) := h1.bl e
    omega
  · have hgv : o.gv = true := by rcases hpc with e1 | ⟨-, e1⟩ | ⟨e1, -⟩ <;> first | exact e1 | omega
    obtain ⟨g1, g2, -⟩ := hgw hgv
    obtain ⟨g0, hg0⟩ : ∃ g0, s.gens[o.tw.toNat - 1]? = some g0 := ⟨_, List.getElem?_eq_getElem (by rw [h.si.gl]; omega)⟩
    have := h.gb _ _ hg0
    exact ⟨h.go j o ho hp hgv, g0, hg0, by omega, by omega⟩
  · by_cases hw : x = o.w
    · left
      obtain ⟨l1, l2, l3, l4, l5⟩ := hld (by omega)
      have hx' := hx
      rw [hat (by omega)] at hx'
      obtain ⟨a, b, x0⟩ := h.si.at_head hn hk hx'
      have hseen : seen = sw (o.ht - 1) := by rw [← l1, ← hw, b]
      have hbl : 0 ≤ o.bl ∧ o.bl ≤ c.nT ∧ (seen = sw (o.ht - 1) → ∃ r, L (o.ht - 1) = o.tw :: r ∧ o.bl = hd0 r) := h1.bl e
      obtain ⟨r, hr, -⟩ := hbl.2.2 hseen
      intro h2
      exact ((h.si.out o.tw).1 (by rw [h2]; rfl)).2 _ hk (by rw [hr]; exact List.mem_cons_self)
    · exact .inr hw
end Go.Lf
namespace Go.Proofs.YtjghenomeindcaaGreat
open Go.RowKit Go.Lf
section
variable {w : World} {A : Nat → Prop} {c : Cfg} {pb mb l tb vb gb rb : Nat} {F G : Nat → Prop} {s : PSt} {o : PO} {x : Int}
/-- A step of an operation of the reference. -/
theorem r14step (h : RPA w A c pb mb l tb vb gb F G s) (ho : RRunAt w rb pb o) (nA : ¬ A rb) (hok : c.ok) (hg : RGo c s o x) (hx : s.ws[o.at c]? = some x) : Calls Tryz.prog 91 #[.pointer (some ⟨rb, 0, none⟩)] w (R14To w A c pb mb l rb (o.st c s x) (o.op x) o.pc) := by
  rcases hg.pc with e | ⟨hgv, e | e⟩ | ⟨hgv, e | e⟩
  · exact r14step_4 h ho nA hok hg e hx
  · exact r14step_5 h ho nA hok hg e hgv hx
  · by_cases hw : x = o.w
    · exact r14step_6y h ho nA hok hg e hgv hw hx
    · by_cases ht : o.fl + 1 = o.tr
      · exact r14step_6e h ho nA hok hg e hgv hw ht hx
      · exact r14step_6n h ho nA hok hg e hgv hw ht hx
  · exact r14step_7 h ho nA hok hg e hgv hx
  · by_cases hw : x = o.w
    · exact r14step_8y h ho nA hok hg e hgv hw hx
    · exact r14step_8n h ho nA hok hg e hgv hw hx
end
end Go.Proofs.YtjghenomeindcaaGreat
