/- pool: a step, whatever it is; a run's operations: step, begin. -/
import Derived.Test.YtjghenomeindcaaPoolU
set_option linter.unusedVariables false
set_option linter.unusedSimpArgs false
namespace Go.Lf
/-- What a step asks of the numbers. -/
structure PGo (c : Cfg) (s : PSt) (o : PO) (x : Int) : Prop where
  g4 : o.pc = 4 → 0 ≤ x ∧ x < 18446744073709551616
  g57 : o.pc = 5 ∨ o.pc = 7 → 1 ≤ o.tw ∧ o.tw ≤ c.nT
  g5 : o.pc = 5 → 0 ≤ x ∧ x ≤ 1024
  gw : o.pc ≠ 4 → 0 ≤ o.w ∧ o.w / 65536 < 1099511627775
  g6 : o.pc = 6 → 0 ≤ o.bl ∧ o.bl ≤ 1024 ∧ 0 ≤ o.fl ∧ o.fl < 1000000000
  g8 : o.pc = 8 → 1 ≤ o.tw ∧ o.tw ≤ c.nT ∧ ∃ g, s.gens[o.tw.toNat - 1]? = some g ∧ 0 ≤ g ∧ g < 1000000000
theorem PInv.go_ok {c : Cfg} {R : PRun} {t : Nat} {o : PO} {x : Int} (h : PInv c R) (hn : c.nT ≤ 1024) (hl : R.s.log.length < 1000000) (ht : t < 6) (ho : R.ops t = some o) (hx : R.s.ws[o.at c]? = some x) : PGo c R.s o x := by
  obtain ⟨h1, hth, hof, hmine, hfl⟩ := h.op t o ht ho
  have ht1 := h1.ht1
  have ht6 := h1.ht6
  have hk : o.ht - 1 < 6 := by omega
  have hsl := h.swl _ hk
  have hw : o.pc ≠ 4 → 0 ≤ o.w ∧ o.w / 65536 < 1099511627775 := fun hp => by
    obtain ⟨l1, l2, l3, l4, l5⟩ := h1.ld hp
    omega
  refine ⟨fun hp => ?_, fun hp => (h1.at_lk hp).2, fun hp => ?_, hw, fun hp => ?_, fun hp => ?_⟩
  · rw [h1.at_ne (by omega)] at hx
    obtain ⟨a, b, x0⟩ := h.si.at_head hn hk hx
    omega
  · obtain ⟨hat, tw1, tw2⟩ := h1.at_lk (.inl hp)
    rw [hat] at hx
    obtain ⟨y, hy, y0, y1⟩ := h.si.lo (o.tw.toNat - 1) (by omega)
    rw [show c.links + (o.tw.toNat - 1) = c.links + o.tw.toNat - 1 by omega, hx] at hy
    obtain rfl : x = y := by simpa using hy
    omega
  · obtain ⟨b1, b2, -⟩ := h1.bl hp
    have := h1.fl
    omega
  · have hgv : o.gv = true := by rcases h1.pc with e | ⟨-, e⟩ | ⟨e, -⟩ <;> first | exact e | omega
    obtain ⟨g1, g2, g3⟩ := h1.gw hgv
    obtain ⟨g0, hg0⟩ : ∃ g0, R.s.gens[o.tw.toNat - 1]? = some g0 := ⟨_, List.getElem?_eq_getElem (by rw [h.si.gl]; omega)⟩
    have := h.gb _ _ hg0
    exact ⟨g1, g2, g0, hg0, by omega, by omega⟩
end Go.Lf
namespace Go.Proofs.Ytjghenomeindcaa
open Go.RowKit Go.Lf
section
variable {w w' : World} {A : Nat → Prop} {c : Cfg} {pb mb L ob gb tb m : Nat} {F G : Nat → Prop} {s s' : PSt} {o o' : PO} {x : Int}
theorem PIn.at_hd (h : PIn w A c pb mb L ob gb F G s tb m o) (hp : o.pc ≠ 5 ∧ o.pc ≠ 7) : o.at c = c.pools + o.ht - 1 ∧ (o.at c : Int) = hdOf c o := by
  unfold PO.at hdOf
  rw [if_neg (by omega)]
  exact ⟨rfl, rfl⟩
/-- A step of taking. -/
theorem tstep_any (h : PIn w A c pb mb L ob gb F G s tb m o) (ht : TkAt w tb m pb c o) (hp : o.pc = 4 ∨ o.pc = 5 ∨ o.pc = 6) (hg : PGo c s o x) (hx : s.ws[o.at c]? = some x) :
    Calls Try.prog 21 #[.pointer (some ⟨tb, 0, none⟩)] w fun e w' => e = .returned (.tuple #[.int .u8 o.pc, .bool ((o.op x).pc == 0)]) ∧ TTo w A c pb L tb m (o.st c s x) (o.op x) w' := by
  have hgv := ht.gv
  rcases hp with hp | hp | hp
  · obtain ⟨e1, e2⟩ := h.at_hd (by omega)
    obtain ⟨x0, x1⟩ := hg.g4 hp
    have hst : o.st c s x = { s with log := s.log ++ [⟨o.th, hdOf c o, 1, x, x, false⟩] } := by unfold PO.st; rw [if_pos (.inl hp), e2]
    rw [e1] at hx
    rw [hst]
    by_cases hz : x % 65536 = 0
    · have hop : o.op x = { o with w := x, tw := 0, pc := 0, e := 6 } := by unfold PO.op; rw [if_pos hp, if_neg (by rw [hgv]; decide), if_pos hz]
      have := tlook_no h ht x x0 x1 hx hz
      rw [hz] at this
      rw [hop]
      exact tstep_4 ht hp this
    · have hop : o.op x = { o with w := x, tw := x % 65536, pc := 5 } := by unfold PO.op; rw [if_pos hp, if_neg (by rw [hgv]; decide), if_neg hz]
      rw [hop]
      exact tstep_4 ht hp (tlook_yes h ht x x0 x1 hx hz)
  · obtain ⟨g1, g2⟩ := hg.g57 (.inl hp)
    obtain ⟨x0, x1⟩ := hg.g5 hp
    have hat : o.at c = c.links + o.tw.toNat - 1 := by unfold PO.at; rw [if_pos (.inl hp)]
    have hst : o.st c s x = { s with log := s.log ++ [⟨o.th, ((c.links + o.tw.toNat - 1 : Nat) : Int), 1, x, x, false⟩] } := by unfold PO.st; rw [if_pos (.inr hp), hat]
    have hop : o.op x = { o with bl := x, pc := 6 } := by unfold PO.op; rw [if_neg (by omega), if_pos hp]
    rw [hat] at hx
    rw [hst, hop]
    exact tstep_5 ht hp (tunder_ok h ht g1 g2 x x0 x1 hx)
  · obtain ⟨e1, e2⟩ := h.at_hd (by omega)
    obtain ⟨w0, wq⟩ := hg.gw (by omega)
    obtain ⟨b0, b1, f0, f1⟩ := hg.g6 hp
    have hnw : o.nw = o.bl + 65536 * (o.w / 65536 + 1) := by unfold PO.nw; rw [if_neg (by rw [hgv]; decide)]
    rw [e1] at hx
    by_cases hw : x = o.w
    · have hst : o.st c s x = { s with ws := s.ws.set (c.pools + o.ht - 1) (o.bl + 65536 * (o.w / 65536 + 1)), log := s.log ++ [⟨o.th, hdOf c o, 4, o.w, o.bl + 65536 * (o.w / 65536 + 1), true⟩], out := pup s.out o.tw (some false) } := by
        unfold PO.st; rw [if_neg (by omega), if_neg (by omega), if_pos hw, hnw, e1, hgv, hw]; rfl
      have hop : o.op x = { o with pc := 0 } := by unfold PO.op; rw [if_neg (by omega), if_neg (by omega), if_neg (by omega), if_pos hw]
      rw [hst, hop]
      exact tstep_6 ht hp (ttake_yes h ht w0 wq b0 b1 x hx hw)
    · have hst : o.st c s x = { s with log := s.log ++ [⟨o.th, hdOf c o, 4, x, x, false⟩] } := by unfold PO.st; rw [if_neg (by omega), if_neg (by omega), if_neg hw, e2]
      rw [hst]
      by_cases hf : o.fl + 1 = o.tr
      · have hop : o.op x = { o with tw := 0, fl := o.fl + 1, pc := 0, e := 11 } := by unfold PO.op; rw [if_neg (by omega), if_neg (by omega), if_neg (by omega), if_neg hw, if_neg (by rw [hgv]; decide), if_pos hf]
        rw [hop]
        exact tstep_6 ht hp (ttake_end h ht w0 wq b0 b1 x hx hw f0 f1 hf)
      · have hop : o.op x = { o with tw := 0, fl := o.fl + 1, pc := 4 } := by unfold PO.op; rw [if_neg (by omega), if_neg (by omega), if_neg (by omega), if_neg hw, if_neg (by rw [hgv]; decide), if_neg hf]
        rw [hop]
        exact tstep_6 ht hp (ttake_no h ht w0 wq b0 b1 x hx hw f0 f1 hf)
/-- A step of giving back. -/
theorem gstep_any (h : PIn w A c pb mb L ob gb F G s tb m o) (ht : GvAt w tb m pb c o) (hp : o.pc = 4 ∨ o.pc = 7 ∨ o.pc = 8) (hg : PGo c s o x) (hx : s.ws[o.at c]? = some x) :
    Calls Try.prog 24 #[.pointer (some ⟨tb, 0, none⟩)] w fun e w' => e = .returned (.tuple #[.int .u8 o.pc, .bool ((o.op x).pc == 0)]) ∧ GTo w A c pb L tb m (o.st c s x) (o.op x) w' := by
  have hgv := ht.gv
  rcases hp with hp | hp | hp
  · obtain ⟨e1, e2⟩ := h.at_hd (by omega)
    have hst : o.st c s x = { s with log := s.log ++ [⟨o.th, hdOf c o, 1, x, x, false⟩] } := by unfold PO.st; rw [if_pos (.inl hp), e2]
    have hop : o.op x = { o with w := x, pc := 7 } := by unfold PO.op; rw [if_pos hp, if_pos hgv]
    rw [e1] at hx
    rw [hst, hop]
    exact gstep_4 ht hp (glook_ok h ht x hx)
  · obtain ⟨g1, g2⟩ := hg.g57 (.inr hp)
    obtain ⟨w0, wq⟩ := hg.gw (by omega)
    have hat : o.at c = c.links + o.tw.toNat - 1 := by unfold PO.at; rw [if_pos (.inr hp)]
    have hst : o.st c s x = { s with ws := s.ws.set (c.links + o.tw.toNat - 1) (o.w % 65536), log := s.log ++ [⟨o.th, ((c.links + o.tw.toNat - 1 : Nat) : Int), 2, x, o.w % 65536, false⟩] } := by unfold PO.st; rw [if_neg (by omega), if_pos hp, hat]
    have hop : o.op x = { o with pc := 8 } := by unfold PO.op; rw [if_neg (by omega), if_neg (by omega), if_pos hp]
    rw [hat] at hx
    rw [hst, hop]
    exact gstep_7 ht hp (gonto_ok h ht g1 g2 w0 (by omega) x hx)
  · obtain ⟨e1, e2⟩ := h.at_hd (by omega)
    obtain ⟨w0, wq⟩ := hg.gw (by omega)
    obtain ⟨b0, b1, g, hgg, g0, g9⟩ := hg.g8 hp
    have hnw : o.nw = o.tw + 65536 * (o.w / 65536 + 1) := by unfold PO.nw; rw [if_pos hgv]
    rw [e1] at hx
    by_cases hw : x = o.w
    · have hst : o.st c s x = { ws := s.ws.set (c.pools + o.ht - 1) (o.tw + 65536 * (o.w / 65536 + 1)), log := s.log ++ [⟨o.th, hdOf c o, 4, o.w, o.tw + 65536 * (o.w / 65536 + 1), true⟩], out := pup s.out o.tw none, gens := s.gens.set (o.tw.toNat - 1) (g + 1) } := by
        unfold PO.st; rw [if_neg (by omega), if_neg (by omega), if_pos hw, hnw, e1, hgv, hw, hgg]; rfl
      have hop : o.op x = { o with pc := 0 } := by unfold PO.op; rw [if_neg (by omega), if_neg (by omega), if_neg (by omega), if_pos hw]
      rw [hst, hop]
      exact gstep_8 ht hp (ggive_yes h ht w0 wq b0 b1 x hx hw g hgg g0 g9)
    · have hst : o.st c s x = { s with log := s.log ++ [⟨o.th, hdOf c o, 4, x, x, false⟩] } := by unfold PO.st; rw [if_neg (by omega), if_neg (by omega), if_neg hw, e2]
      have hop : o.op x = { o with pc := 4 } := by unfold PO.op; rw [if_neg (by omega), if_neg (by omega), if_neg (by omega), if_neg hw, if_pos hgv]
      rw [hst, hop]
      exact gstep_8 ht hp (ggive_no h ht w0 wq b0 b1 x hx hw)
end
section
variable {w0 : Frm} {w w' : World} {c : Cfg} {R : PRun} {rb pb L t : Nat} {own own' : Nat → Option Nat} {f : Nat → Nat → Value} {S : Nat → Prop} {o : PO} {v : Value} {zs : List Int} {tag : Nat} {s : PSt} {x : Int}
/-- The pools and thread t's operation have turned. -/
theorem RunAt.turn (h : RunAt w0 w c R rb pb L own f) (ht : t < 6) {A A' : Nat → Prop} {tb m : Nat} {s' : PSt} {o' : PO} (hA : ∀ k, A k → own k = some 0) (htb : own tb = some (2 + t)) (hm : own m = some (8 + t)) (h1 : (PoolL c pb L).lie w' A' s') (k1 : Keep (fun k => A k ∨ k = tb) w w') (f1 : Foot w A A')
    (h2 : (f 0 t = .pointer (some ⟨tb, 0, none⟩) ∧ f 1 t = .pointer none ∧ TkAt w' tb m pb c o') ∨ (f 0 t = .pointer none ∧ f 1 t = .pointer (some ⟨tb, 0, none⟩) ∧ GvAt w' tb m pb c o')) :
    ∃ own', RunAt w0 w' c { R with s := s', ops := pup R.ops t (some o') } rb pb L own' f ∧ Ext own own' := by
  have hx : Ext own (omark own A' 0) := omark_ext fun k e => by
    rcases f1 k e with e | e
    · exact .inl (hA k e)
    · right
      cases ho : own k with
      | none => rfl
      | some t => have := (h.olt k (by rw [ho]; simp)).2; omega
  have nS : ∀ u, u ≠ 0 → u ≠ 2 + t → ∀ k, (A k ∨ k = tb) → own k ≠ some u := fun u u0 ut k e => by
    rcases e with e | e
    · rw [hA k e]; simpa using Ne.symm u0
    · rw [e, htb]; simpa using Ne.symm ut
  refine ⟨_, ⟨k1.at h.head (fun e => nS 1 (by omega) (by omega) rb e h.orb), hx _ _ h.orb, h.kp.trans k1 (fun k hk e => ?_), fun k e => ?_, ⟨A', h1, fun k e => omark_in e⟩, fun u hu => ?_, h.of, fun u hu => (h.mine u hu).keep k1 hx (nS _ (by omega) (by omega)), fun u hu => (h.stk u hu).keep k1 hx (nS _ (by omega) (by omega)), h.sw, h.seen, h.steps⟩, hx⟩
  · have hko : own k ≠ none := by
      rcases e with e | e
      · rw [hA k e]; simp
      · rw [e, htb]; simp
    exact (h.olt k hko).1.resolve_left (by omega)
  · rcases omark_ne e with e | e
    · have h3 := (PoolL c pb L).lt h1 k e
      rcases f1 k e with e | e
      · exact ⟨(h.olt k (by rw [hA k e]; simp)).1, h3⟩
      · exact ⟨.inl (by have := h.kp.size; omega), h3⟩
    · exact ⟨(h.olt k e).1, Nat.lt_of_lt_of_le (h.olt k e).2 k1.size⟩
  · show OpAt w' _ c pb u (pup R.ops t (some o') u) _ _
    by_cases e : u = t
    · subst e
      rw [pup_me]
      exact ⟨tb, m, hx _ _ htb, hx _ _ hm, h2⟩
    · rw [pup_ne e]
      exact (h.op u hu).keep k1 hx (fun k e2 => ⟨nS _ (by omega) (by omega) k e2, nS _ (by omega) (by omega) k e2⟩)
theorem pinv_pin {A : Nat → Prop} {mb ob gb tb m : Nat} {F G : Nat → Prop} (hi : PInv c R) (hok : c.ok) (hl : R.s.log.length < 1000000) (ht : t < 6) (ho : R.ops t = some o) (hp : PA w A c pb mb L ob gb F G R.s) (hA : ∀ k, A k → own k = some 0) (htb : own tb = some (2 + t)) (hm : own m = some (8 + t)) : PIn w A c pb mb L ob gb F G R.s tb m o := by
  obtain ⟨h1, hth, -⟩ := hi.op t o ht ho
  exact ⟨hp, hok, fun e => by have := hA tb e; rw [htb] at this; simp at this, fun e => by have := hA m e; rw [hm] at this; simp at this, h1.th0, h1.th1, h1.ht1, h1.ht6, by omega⟩
/-- Thread t makes a step of taking. -/
theorem run_tstep (h : RunAt w0 w c R rb pb L own f) (hi : PInv c R) (hok : c.ok) (hl : R.s.log.length < 1000000) (ht : t < 6) (ho : R.ops t = some o) (hgv : o.gv = false) (hx : R.s.ws[o.at c]? = some x) :
    ∃ tb, f 0 t = .pointer (some ⟨tb, 0, none⟩) ∧ f 1 t = .pointer none ∧ Calls Try.prog 21 #[.pointer (some ⟨tb, 0, none⟩)] w fun e w' => e = .returned (.tuple #[.int .u8 o.pc, .bool ((o.op x).pc == 0)]) ∧
      ∃ own', RunAt w0 w' c { R with s := o.st c R.s x, ops := pup R.ops t (some (o.op x)) } rb pb L own' f := by
  have hop := h.op t ht
  rw [ho] at hop
  obtain ⟨tb, m, o1, o2, ⟨e1, e2, e3⟩ | ⟨-, -, e3⟩⟩ := hop
  · refine ⟨tb, e1, e2, ?_⟩
    obtain ⟨A, ⟨mb, ob, gb, F, G, hpa⟩, hA⟩ := h.pl
    have hpin := pinv_pin hi hok hl ht ho hpa hA o1 o2
    have hpc : o.pc = 4 ∨ o.pc = 5 ∨ o.pc = 6 := by
      obtain ⟨h1, -⟩ := hi.op t o ht ho
      rcases h1.pc with e | ⟨-, e⟩ | ⟨e, -⟩
      · exact .inl e
      · exact .inr e
      · rw [hgv] at e; cases e
    refine (tstep_any hpin e3 hpc (hi.go_ok hok.nT hl ht ho hx) hx).mono ?_
    rintro e w' ⟨rfl, A', h1, h2, k1, f1⟩
    obtain ⟨own', hr, -⟩ := h.turn ht hA o1 o2 h1 k1 f1 (.inl ⟨e1, e2, h2⟩)
    exact ⟨rfl, own', hr⟩
  · have := e3.gv
    rw [hgv] at this
    cases this
theorem run_gstep (h : RunAt w0 w c R rb pb L own f) (hi : PInv c R) (hok : c.ok) (hl : R.s.log.length < 1000000) (ht : t < 6) (ho : R.ops t = some o) (hgv : o.gv = true) (hx : R.s.ws[o.at c]? = some x) :
    ∃ tb, f 0 t = .pointer none ∧ f 1 t = .pointer (some ⟨tb, 0, none⟩) ∧ Calls Try.prog 24 #[.pointer (some ⟨tb, 0, none⟩)] w fun e w' => e = .returned (.tuple #[.int .u8 o.pc, .bool ((o.op x).pc == 0)]) ∧
      ∃ own', RunAt w0 w' c { R with s := o.st c R.s x, ops := pup R.ops t (some (o.op x)) } rb pb L own' f := by
  have hop := h.op t ht
  rw [ho] at hop
  obtain ⟨tb, m, o1, o2, ⟨-, -, e3⟩ | ⟨e1, e2, e3⟩⟩ := hop
  · have := e3.gv
    rw [hgv] at this
    cases this
  · refine ⟨tb, e1, e2, ?_⟩
    obtain ⟨A, ⟨mb, ob, gb, F, G, hpa⟩, hA⟩ := h.pl
    have hpin := pinv_pin hi hok hl ht ho hpa hA o1 o2
    have hpc : o.pc = 4 ∨ o.pc = 7 ∨ o.pc = 8 := by
      obtain ⟨h1, -⟩ := hi.op t o ht ho
      rcases h1.pc with e | ⟨e, -⟩ | ⟨-, e⟩
      · exact .inl e
      · rw [hgv] at e; cases e
      · exact .inr e
    refine (gstep_any hpin e3 hpc (hi.go_ok hok.nT hl ht ho hx) hx).mono ?_
    rintro e w' ⟨rfl, A', h1, h2, k1, f1⟩
    obtain ⟨own', hr, -⟩ := h.turn ht hA o1 o2 h1 k1 f1 (.inr ⟨e1, e2, h2⟩)
    exact ⟨rfl, own', hr⟩
/-- What Result says of thread t's taking. -/
theorem run_res (h : RunAt w0 w c R rb pb L own f) (ht : t < 6) {tb : Nat} (hf : f 0 t = .pointer (some ⟨tb, 0, none⟩)) (ho : R.ops t = some o) (a b e : Int) (hr : PO.res o = (a, b, e)) :
    Calls Try.prog 20 #[.pointer (some ⟨tb, 0, none⟩)] w fun e' w' => e' = .returned (.tuple #[.int .i64 a, .int .i64 b, .int .i64 e]) ∧ RunAt w0 w' c R rb pb L own f := by
  have hop := h.op t ht
  rw [ho] at hop
  obtain ⟨tb', m, o1, o2, ⟨e1, e2, e3⟩ | ⟨e1, e2, e3⟩⟩ := hop
  · rw [e1] at hf
    simp only [Value.pointer.injEq, Option.some.injEq, Addr.mk.injEq, and_true] at hf
    subst hf
    refine (tres_ok e3 a b e hr).mono ?_
    rintro e' w' ⟨rfl, hk⟩
    exact ⟨rfl, h.quiet hk⟩
  · rw [e1] at hf
    cases hf
/-- New blocks for thread t. -/
theorem RunAt.more (h : RunAt w0 w c R rb pb L own f) {tb m : Nat} (hk : Keep Nil w w') (n1 : w.heap.size ≤ tb) (n2 : w.heap.size ≤ m) (l1 : tb < w'.heap.size) (l2 : m < w'.heap.size) (hne : m ≠ tb) (a b : Nat) :
    ∃ own', RunAt w0 w' c R rb pb L own' f ∧ own' tb = some a ∧ own' m = some b ∧ Ext own own' := by
  have hno : ∀ k, w.heap.size ≤ k → own k = none := fun k hk => by
    cases ho : own k with
    | none => rfl
    | some t => have := (h.olt k (by rw [ho]; simp)).2; omega
  have hx : Ext own (omark (omark own (fun k => k = tb) a) (fun k => k = m) b) := by
    refine (omark_ext (S := fun k => k = tb) (t := a) fun k e => .inr (hno k (by omega))).trans (omark_ext fun k e => .inr ?_)
    rw [omark_out (by show ¬ k = tb; omega)]
    exact hno k (by omega)
  have hq := h.quiet hk
  refine ⟨_, ⟨hq.head, hx _ _ hq.orb, hq.kp, fun k e => ?_, hq.pl.keep (Keep.refl Nil w') hx (fun _ h => h.elim), fun t ht => (hq.op t ht).keep (Keep.refl Nil w') hx (fun _ h => h.elim), hq.of, fun t ht => (hq.mine t ht).keep (Keep.refl Nil w') hx (fun _ h => h.elim), fun t ht => (hq.stk t ht).keep (Keep.refl Nil w') hx (fun _ h => h.elim), hq.sw, hq.seen, hq.steps⟩, ?_, omark_in rfl, hx⟩
  · rcases omark_ne e with e | e
    · exact ⟨.inl (by have := h.kp.size; omega), by omega⟩
    · rcases omark_ne e with e | e
      · exact ⟨.inl (by have := h.kp.size; omega), by omega⟩
      · exact hq.olt k e
  · rw [omark_out (fun e => hne e.symm)]
    exact omark_in rfl
/-- A row of the run has grown: the new slice is marked as the old one. -/
theorem RunAt.grow (h : RunAt w0 w c R rb pb L own f) {vo v' : Value} {zs' : List Int} {tag : Nat} (ht0 : tag ≠ 0) (ht1 : tag ≠ 1) (ht2 : ∀ t, t < 6 → tag ≠ 2 + t ∧ tag ≠ 8 + t) (hot : ∀ k, vo.ownBlock = some k → own k = some tag) (hk : Keep (fun q => vo.ownBlock = some q) w w') (hv : ORow w' 3 v' zs') (hst : ∀ k, v'.ownBlock = some k → vo.ownBlock = some k ∨ w.heap.size ≤ k)
    (hm : ∀ t, t < 6 → tag = 14 + t → ORow w' 3 (f 3 t) (R.mine t)) (hs : ∀ u, u < 6 → tag = 20 + u → ORow w' 3 (f 4 u) (R.L u).reverse) :
    ∃ own', RunAt w0 w' c R rb pb L own' f ∧ RwAt w' own' tag v' zs' := by
  have hx : Ext own (omark own (fun k => v'.ownBlock = some k) tag) := omark_ext fun k e => by
    rcases hst k e with e | e
    · exact .inl (hot k e)
    · right
      cases ho : own k with
      | none => rfl
      | some t => have := (h.olt k (by rw [ho]; simp)).2; omega
  have nS : ∀ u, u ≠ tag → ∀ k, vo.ownBlock = some k → own k ≠ some u := fun u hu k e => by rw [hot k e]; simpa using Ne.symm hu
  refine ⟨_, ⟨hk.at h.head (fun e => nS 1 (Ne.symm ht1) rb e h.orb), hx _ _ h.orb, h.kp.trans hk (fun k hlt e => (h.olt k (by rw [hot k e]; simp)).1.resolve_left (by omega)), fun k e => ?_, h.pl.keep hk hx (nS 0 (Ne.symm ht0)), fun t ht => (h.op t ht).keep hk hx (fun k e => ⟨nS _ (Ne.symm (ht2 t ht).1) k e, nS _ (Ne.symm (ht2 t ht).2) k e⟩), h.of, fun t ht => ?_, fun u hu => ?_, h.sw, h.seen, h.steps⟩, hv, fun k e => omark_in e⟩
  · rcases omark_ne e with e | e
    · have h3 := hv.lt k e
      rcases hst k e with e | e
      · exact ⟨(h.olt k (by rw [hot k e]; simp)).1, h3⟩
      · exact ⟨.inl (by have := h.kp.size; omega), h3⟩
    · exact ⟨(h.olt k e).1, Nat.lt_of_lt_of_le (h.olt k e).2 hk.size⟩
  · by_cases e : tag = 14 + t
    · exact ⟨hm t ht e, fun k e2 => hx _ _ ((h.mine t ht).2 k e2)⟩
    · exact (h.mine t ht).keep hk hx (nS _ (Ne.symm e))
  · by_cases e : tag = 20 + u
    · exact ⟨hs u hu e, fun k e2 => hx _ _ ((h.stk u hu).2 k e2)⟩
    · exact (h.stk u hu).keep hk hx (nS _ (Ne.symm e))
end
end Go.Proofs.Ytjghenomeindcaa
