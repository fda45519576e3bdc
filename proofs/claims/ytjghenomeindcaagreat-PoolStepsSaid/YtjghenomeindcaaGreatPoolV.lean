/- pool: a step, whatever it is; a run's operations: step, begin. -/
import Derived.Test.YtjghenomeindcaaGreatPoolO
set_option linter.unusedVariables false
set_option linter.unusedSimpArgs false
namespace Go.Lf
/-- What a step asks of the numbers. -/
structure PGo (c : Cfg) (s : PSt) (o : PO) (x : Int) : Prop where
  g4 : o.pc = 4 → 0 ≤ x ∧ x < 18446744073709551616
  g57 : o.pc = 5 ∨ o.pc = 7 → 1 ≤ o.tw ∧ o.tw ≤ c.nT
  g5 : o.pc = 5 → 0 ≤ x ∧ x ≤ 1024
  gw : o.pc ≠ 4 → 0 ≤ o.w ∧ o.w / 65536 < 1099511627775
  g6 : o.pc = 6 → 0 ≤ o.bl ∧ o.bl ≤ 1024 ∧ 0 ≤ o.fl ∧ o.fl < 1000000000
  g8 : o.pc = 8 → 1 ≤ o.tw ∧ o.tw ≤ c.nT ∧ ∃ g, s.gens[o.tw.toNat - 1]? = some g ∧ 0 ≤ g ∧ g < 1000000000
theorem PInv.go_ok {c : Cfg} {R : PRun} {t : Nat} {o : PO} {x : Int} (h : PInv c R) (hn : c.nT ≤ 1024) (hl : R.s.log.length < 1000000) (ht : t < 6) (ho : R.ops t = some o) (hx : R.s.ws[o.at c]? = some x) : PGo c R.s o x := by
  obtain ⟨h1, hth, hof, hmine, hfl⟩ := h.op t o ht ho
  have ht1 := h1.ht1
  have ht6 := h1.ht6
  have hk : o.ht - 1 < 6 := by omega
  have hsl := h.swl _ hk
  have hw : o.pc ≠ 4 → 0 ≤ o.w ∧ o.w / 65536 < 1099511627775 := fun hp => by
    obtain ⟨l1, l2, l3, l4, l5⟩ := h1.ld hp
    omega
  refine ⟨fun hp => ?_, fun hp => (h1.at_lk hp).2, fun hp => ?_, hw, fun hp => ?_, fun hp => ?_⟩
  · rw [h1.at_ne (by omega)] at hx
    obtain ⟨a, b, x0⟩ := h.si.at_head hn hk hx
    omega
  · obtain ⟨hat, tw1, tw2⟩ := h1.at_lk (.inl hp)
    rw [hat] at hx
    obtain ⟨y, hy, y0, y1⟩ := h.si.lo (o.tw.toNat - 1) (by omega)
    rw [show c.links + (o.tw.toNat - 1) = c.links + o.tw.toNat - 1 by omega, hx] at hy
    obtain rfl : x = y := by simpa using hy
    omega
  · obtain ⟨b1, b2, -⟩ := h1.bl hp
    have := h1.fl
    omega
  · have hgv : o.gv = true := by rcases h1.pc with e | ⟨-, e⟩ | ⟨e, -⟩ <;> first | exact e | omega
    obtain ⟨g1, g2, g3⟩ := h1.gw hgv
    obtain ⟨g0, hg0⟩ : ∃ g0, R.s.gens[o.tw.toNat - 1]? = some g0 := ⟨_, List.getElem?_eq_getElem (by rw [h.si.gl]; omega)⟩
    have := h.gb _ _ hg0
    exact ⟨g1, g2, g0, hg0, by omega, by omega⟩
end Go.Lf
namespace Go.Proofs.YtjghenomeindcaaGreat
open Go.RowKit Go.Lf
section
variable {w w' : World} {A : Nat → Prop} {c : Cfg} {pb mb L ob gb tb m : Nat} {F G : Nat → Prop} {s s' : PSt} {o o' : PO} {x : Int}
theorem PIn.at_hd (h : PIn w A c pb mb L ob gb F G s tb m o) (hp : o.pc ≠ 5 ∧ o.pc ≠ 7) : o.at c = c.pools + o.ht - 1 ∧ (o.at c : Int) = hdOf c o := by
  unfold PO.at hdOf
  rw [if_neg (by omega)]
  exact ⟨rfl, rfl⟩
/-- A step of taking. -/
theorem tstep_any (h : PIn w A c pb mb L ob gb F G s tb m o) (ht : TkAt w tb m pb c o) (hp : o.pc = 4 ∨ o.pc = 5 ∨ o.pc = 6) (hg : PGo c s o x) (hx : s.ws[o.at c]? = some x) :
    Calls Tryz.prog 90 #[.pointer (some ⟨tb, 0, none⟩)] w fun e w' => e = .returned (.tuple #[.int .u8 o.pc, .bool ((o.op x).pc == 0)]) ∧ TTo w A c pb mb L tb m (o.st c s x) (o.op x) w' := by
  have hgv := ht.gv
  rcases hp with hp | hp | hp
  · obtain ⟨e1, e2⟩ := h.at_hd (by omega)
    obtain ⟨x0, x1⟩ := hg.g4 hp
    have hst : o.st c s x = { s with log := s.log ++ [⟨o.th, hdOf c o, 1, x, x, false⟩] } := by unfold PO.st; rw [if_pos (.inl hp), e2]
    rw [e1] at hx
    rw [hst]
    by_cases hz : x % 65536 = 0
    · have hop : o.op x = { o with w := x, tw := 0, pc := 0, e := 6 } := by unfold PO.op; rw [if_pos hp, if_neg (by rw [hgv]; decide), if_pos hz]
      have := tlook_no h ht x x0 x1 hx hz
      rw [hz] at this
      rw [hop]
      exact tstep_4 ht hp this
    · have hop : o.op x = { o with w := x, tw := x % 65536, pc := 5 } := by unfold PO.op; rw [if_pos hp, if_neg (by rw [hgv]; decide), if_neg hz]
      rw [hop]
      exact tstep_4 ht hp (tlook_yes h ht x x0 x1 hx hz)
  · obtain ⟨g1, g2⟩ := hg.g57 (.inl hp)
    obtain ⟨x0, x1⟩ := hg.g5 hp
    have hat : o.at c = c.links + o.tw.toNat - 1 := by unfold PO.at; rw [if_pos (.inl hp)]
    have hst : o.st c s x = { s with log := s.log ++ [⟨o.th, ((c.links + o.tw.toNat - 1 : Nat) : Int), 1, x, x, false⟩] } := by unfold PO.st; rw [if_pos (.inr hp), hat]
    have hop : o.op x = { o with bl := x, pc := 6 } := by unfold PO.op; rw [if_neg (by omega), if_pos hp]
    rw [hat] at hx
    rw [hst, hop]
    exact tstep_5 ht hp (tunder_ok h ht g1 g2 x x0 x1 hx)
  · obtain ⟨e1, e2⟩ := h.at_hd (by omega)
    obtain ⟨w0, wq⟩ := hg.gw (by omega)
    obtain ⟨b0, b1, f0, f1⟩ := hg.g6 hp
    have hnw : o.nw = o.bl + 65536 * (o.w / 65536 + 1) := by unfold PO.nw; rw [if_neg (by rw [hgv]; decide)]
    rw [e1] at hx
    by_cases hw : x = o.w
    · have hst : o.st c s x = { s with ws := s.ws.set (c.pools + o.ht - 1) (o.bl + 65536 * (o.w / 65536 + 1)), log := s.log ++ [⟨o.th, hdOf c o, 4, o.w, o.bl + 65536 * (o.w / 65536 + 1), true⟩], out := pup s.out o.tw (some false) } := by
        unfold PO.st; rw [if_neg (by omega), if_neg (by omega), if_pos hw, hnw, e1, hgv, hw]; rfl
      have hop : o.op x = { o with pc := 0 } := by unfold PO.op; rw [if_neg (by omega), if_neg (by omega), if_neg (by omega), if_pos hw]
      rw [hst, hop]
      exact tstep_6 ht hp (ttake_yes h ht w0 wq b0 b1 x hx hw)
    · have hst : o.st c s x = { s with log := s.log ++ [⟨o.th, hdOf c o, 4, x, x, false⟩] } := by unfold PO.st; rw [if_neg (by omega), if_neg (by omega), if_neg hw, e2]
      rw [hst]
      by_cases hf : o.fl + 1 = o.tr
      · have hop : o.op x = { o with tw := 0, fl := o.fl + 1, pc := 0, e := 11 } := by unfold PO.op; rw [if_neg (by omega), if_neg (by omega), if_neg (by omega), if_neg hw, if_neg (by rw [hgv]; decide), if_pos hf]
        rw [hop]
        exact tstep_6 ht hp (ttake_end h ht w0 wq b0 b1 x hx hw f0 f1 hf)
      · have hop : o.op x = { o with tw := 0, fl := o.fl + 1, pc := 4 } := by unfold PO.op; rw [if_neg (by omega), if_neg (by omega), if_neg (by omega), if_neg hw, if_neg (by rw [hgv]; decide), if_neg hf]
        rw [hop]
        exact tstep_6 ht hp (ttake_no h ht w0 wq b0 b1 x hx hw f0 f1 hf)
/-- A step of giving back. -/
theorem gstep_any (h : PIn w A c pb mb L ob gb F G s tb m o) (ht : GvAt w tb m pb c o) (hp : o.pc = 4 ∨ o.pc = 7 ∨ o.pc = 8) (hg : PGo c s o x) (hx : s.ws[o.at c]? = some x) :
    Calls Tryz.prog 95 #[.pointer (some ⟨tb, 0, none⟩)] w fun e w' => e = .returned (.tuple #[.int .u8 o.pc, .bool ((o.op x).pc == 0)]) ∧ GTo w A c pb mb L tb m (o.st c s x) (o.op x) w' := by
  have hgv := ht.gv
  rcases hp with hp | hp | hp
  · obtain ⟨e1, e2⟩ := h.at_hd (by omega)
    have hst : o.st c s x = { s with log := s.log ++ [⟨o.th, hdOf c o, 1, x, x, false⟩] } := by unfold PO.st; rw [if_pos (.inl hp), e2]
    have hop : o.op x = { o with w := x, pc := 7 } := by unfold PO.op; rw [if_pos hp, if_pos hgv]
    rw [e1] at hx
    rw [hst, hop]
    exact gstep_4 ht hp (glook_ok h ht x hx)
  · obtain ⟨g1, g2⟩ := hg.g57 (.inr hp)
    obtain ⟨w0, wq⟩ := hg.gw (by omega)
    have hat : o.at c = c.links + o.tw.toNat - 1 := by unfold PO.at; rw [if_pos (.inr hp)]
    have hst : o.st c s x = { s with ws := s.ws.set (c.links + o.tw.toNat - 1) (o.w % 65536), log := s.log ++ [⟨o.th, ((c.links + o.tw.toNat - 1 : Nat) : Int), 2, x, o.w % 65536, false⟩] } := by unfold PO.st; rw [if_neg (by omega), if_pos hp, hat]
    have hop : o.op x = { o with pc := 8 } := by unfold PO.op; rw [if_neg (by omega), if_neg (by omega), if_pos hp]
    rw [hat] at hx
    rw [hst, hop]
    exact gstep_7 ht hp (gonto_ok h ht g1 g2 w0 (by omega) x hx)
  · obtain ⟨e1, e2⟩ := h.at_hd (by omega)
    obtain ⟨w0, wq⟩ := hg.gw (by omega)
    obtain ⟨b0, b1, g, hgg, g0, g9⟩ := hg.g8 hp
    have hnw : o.nw = o.tw + 65536 * (o.w / 65536 + 1) := by unfold PO.nw; rw [if_pos hgv]
    rw [e1] at hx
    by_cases hw : x = o.w
    · have hst : o.st c s x = { ws := s.ws.set (c.pools + o.ht - 1) (o.tw + 65536 * (o.w / 65536 + 1)), log := s.log ++ [⟨o.th, hdOf c o, 4, o.w, o.tw + 65536 * (o.w / 65536 + 1), true⟩], out := pup s.out o.tw none, gens := s.gens.set (o.tw.toNat - 1) (g + 1) } := by
        unfold PO.st; rw [if_neg (by omega), if_neg (by omega), if_pos hw, hnw, e1, hgv, hw, hgg]; rfl
      have hop : o.op x = { o with pc := 0 } := by unfold PO.op; rw [if_neg (by omega), if_neg (by omega), if_neg (by omega), if_pos hw]
      rw [hst, hop]
      exact gstep_8 ht hp (ggive_yes h ht w0 wq b0 b1 x hx hw g hgg g0 g9)
    · have hst : o.st c s x = { s with log := s.log ++ [⟨o.th, hdOf c o, 4, x, x, false⟩] } := by unfold PO.st; rw [if_neg (by omega), if_neg (by omega), if_neg hw, e2]
      have hop : o.op x = { o with pc := 4 } := by unfold PO.op; rw [if_neg (by omega), if_neg (by omega), if_neg (by omega), if_neg hw, if_pos hgv]
      rw [hst, hop]
      exact gstep_8 ht hp (ggive_no h ht w0 wq b0 b1 x hx hw)
end
end Go.Proofs.YtjghenomeindcaaGreat
