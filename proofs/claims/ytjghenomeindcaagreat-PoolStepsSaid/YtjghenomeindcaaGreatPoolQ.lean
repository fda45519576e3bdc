/- PoolSteps: the pools and any number of operations, as plain data. No program is named here. -/
import Derived.Test.YtjghenomeindcaaGreatPoolR
set_option linter.unusedVariables false
set_option linter.unusedSimpArgs false
namespace Go.Lf
/-- An operation without what does not matter for the stacks. -/
def PO.er (o : PO) : PO := { o with tr := 0, e := 0 }
def QOk (c : Cfg) (ws : List Int) (L : Nat → List Int) (sw : Nat → Int) (o : PO) : Prop := ∃ seen steps, POk c ws L sw o.er seen steps
structure QInv (c : Cfg) (s : PSt) (ops : List PO) (L : Nat → List Int) (sw : Nat → Int) : Prop where
  si : SInv c s L sw
  op : ∀ (j : Nat) (o : PO), ops[j]? = some o → o.pc = 0 ∨ (QOk c s.ws L sw o ∧ o.fl ≤ s.log.length)
  go : ∀ (j : Nat) (o : PO), ops[j]? = some o → o.pc ≠ 0 → o.gv = true → s.out o.tw = some true
  gd : ∀ (i j : Nat) (o p : PO), ops[i]? = some o → ops[j]? = some p → o.pc ≠ 0 → p.pc ≠ 0 → o.gv = true → p.gv = true → o.tw = p.tw → i = j
  swl : ∀ h, h < 6 → sw h ≤ s.log.length
  gb : ∀ (i : Nat) (g : Int), s.gens[i]? = some g → 0 ≤ g ∧ g ≤ s.log.length
theorem q_set {α : Type} {l : List α} {j u : Nat} {x p : α} (h : (l.set j x)[u]? = some p) : (u = j ∧ p = x) ∨ (u ≠ j ∧ l[u]? = some p) := by
  rw [List.getElem?_set] at h
  split at h
  · rename_i e
    split at h
    · cases h; exact .inl ⟨e.symm, rfl⟩
    · cases h
  · rename_i e; exact .inr ⟨fun e2 => e e2.symm, h⟩
theorem q_snoc {α : Type} {l : List α} {u : Nat} {x p : α} (h : (l ++ [x])[u]? = some p) : (u = l.length ∧ p = x) ∨ (u < l.length ∧ l[u]? = some p) := by
  by_cases hu : u < l.length
  · rw [List.getElem?_append_left hu] at h; exact .inr ⟨hu, h⟩
  · rw [List.getElem?_append_right (by omega)] at h
    obtain ⟨h1, h2⟩ := List.getElem?_eq_some_iff.1 h
    simp only [List.length_singleton] at h1
    have e : u = l.length := by omega
    subst e
    simp only [Nat.sub_self, List.getElem_cons_zero] at h2
    exact .inl ⟨rfl, h2.symm⟩
section
variable {c : Cfg} {s : PSt} {ops : List PO} {L : Nat → List Int} {sw : Nat → Int} {j : Nat} {o : PO} {x : Int}
/-- There is a word where the next step makes its access. -/
theorem QInv.word (h : QInv c s ops L sw) (ho : ops[j]? = some o) (hp : o.pc ≠ 0) : ∃ x, s.ws[o.at c]? = some x := by
  obtain ⟨⟨a, b, h1⟩, -⟩ := (h.op j o ho).resolve_left hp
  by_cases hq : o.pc = 5 ∨ o.pc = 7
  · obtain ⟨e, q1, q2⟩ := POk.at_lk (c := c) (o := o.er) h1 hq
    have e' : o.at c = c.links + o.tw.toNat - 1 := e
    have q1' : 1 ≤ o.tw := q1
    have q2' : o.tw ≤ c.nT := q2
    obtain ⟨y, hy, -⟩ := h.si.lo (o.tw.toNat - 1) (by omega)
    exact ⟨y, by rw [e', show c.links + o.tw.toNat - 1 = c.links + (o.tw.toNat - 1) by omega]; exact hy⟩
  · have e' : o.at c = c.pools + (o.ht - 1) := POk.at_ne (c := c) (o := o.er) h1 (by show o.pc ≠ 5 ∧ o.pc ≠ 7; omega)
    have h6 : o.ht ≤ 6 := h1.ht6
    have h1' : 1 ≤ o.ht := h1.ht1
    rw [e']
    exact ⟨_, h.si.head _ (by omega)⟩
/-- Only one operation turns, and the log grows. -/
theorem QInv.own (h : QInv c s ops L sw) (ho : ops[j]? = some o) (hp : o.pc ≠ 0) {o' : PO} {ws' : List Int} {a : Acc} (hsi : SInv c { s with ws := ws', log := s.log ++ [a] } L sw)
    (hw : ∀ i, (∀ (u : Nat) (p : PO), u ≠ j → ops[u]? = some p → p.pc = 8 → i ≠ c.links + p.tw.toNat - 1) ∨ ws'[i]? = s.ws[i]?) (hw2 : ∀ k, k < 6 → ws'[c.pools + k]? = s.ws[c.pools + k]?)
    (hnew : o'.pc = 0 ∨ (QOk c ws' L sw o' ∧ o'.fl ≤ s.log.length + 1)) (hgv : o'.gv = o.gv) (htw : o.gv = true → o'.tw = o.tw) :
    QInv c { s with ws := ws', log := s.log ++ [a] } (ops.set j o') L sw := by
  have hll : ((s.log ++ [a]).length : Int) = s.log.length + 1 := by simp
  refine ⟨hsi, fun u p hu => ?_, fun u p hu hpc hpg => ?_, fun u v p q hu hv hpc hqc hpg hqg e => ?_, fun k hk => ?_, fun i g hg => ?_⟩
  · rcases q_set hu with ⟨rfl, rfl⟩ | ⟨hne, hu⟩
    · refine hnew.imp id fun h => ⟨h.1, ?_⟩
      have := h.2
      show _ ≤ ((s.log ++ [a]).length : Int)
      omega
    · refine (h.op u p hu).imp id fun hk => ?_
      obtain ⟨⟨a1, a2, a3⟩, a4⟩ := hk
      refine ⟨⟨a1, a2, a3.keep (.inl ⟨rfl, rfl, ?_⟩) fun h8 => ?_⟩, ?_⟩
      · have q1 : 1 ≤ p.ht := a3.ht1
        have q6 : p.ht ≤ 6 := a3.ht6
        show ws'[c.pools + p.ht - 1]? = s.ws[c.pools + p.ht - 1]?
        rw [show c.pools + p.ht - 1 = c.pools + (p.ht - 1) by omega]
        exact hw2 _ (by omega)
      · exact (hw (c.links + p.tw.toNat - 1)).resolve_left fun hq => hq u p hne hu h8 rfl
      · show p.fl ≤ ((s.log ++ [a]).length : Int)
        omega
  · rcases q_set hu with ⟨rfl, rfl⟩ | ⟨hne, hu⟩
    · rw [hgv] at hpg
      show s.out p.tw = some true
      rw [htw hpg]
      exact h.go u o ho hp hpg
    · exact h.go u p hu hpc hpg
  · have back : ∀ (u : Nat) (p : PO), (ops.set j o')[u]? = some p → p.pc ≠ 0 → p.gv = true → ∃ p', ops[u]? = some p' ∧ p'.pc ≠ 0 ∧ p'.gv = true ∧ p'.tw = p.tw := fun u p hu hpc hpg => by
      rcases q_set hu with ⟨rfl, rfl⟩ | ⟨hne, hu⟩
      · rw [hgv] at hpg
        exact ⟨o, ho, hp, hpg, (htw hpg).symm⟩
      · exact ⟨p, hu, hpc, hpg, rfl⟩
    obtain ⟨p', p1, p2, p3, p4⟩ := back u p hu hpc hpg
    obtain ⟨q', q1, q2, q3, q4⟩ := back v q hv hqc hqg
    exact h.gd u v p' q' p1 q1 p2 q2 p3 q3 (p4.trans (e.trans q4.symm))
  · have := h.swl k hk
    show sw k ≤ ((s.log ++ [a]).length : Int)
    omega
  · have := h.gb i g hg
    show 0 ≤ g ∧ g ≤ ((s.log ++ [a]).length : Int)
    omega
/-- The others stay what they are where a compare-and-swap succeeds. -/
theorem QOk.others {ws : List Int} {p : PO} {k : Nat} {L' : List Int} {v : Int} (hp : QOk c ws L sw p) (hk : k < 6) : QOk c (ws.set (c.pools + k) v) (pup L k L') (pup sw k (sw k + 1)) p := by
  obtain ⟨a1, a2, a3⟩ := hp
  have q1 : 1 ≤ p.ht := a3.ht1
  have q6 : p.ht ≤ 6 := a3.ht6
  refine ⟨a1, a2, a3.keep ?_ fun h8 => ?_⟩
  · show (pup sw k (sw k + 1) (p.ht - 1) = sw (p.ht - 1) ∧ pup L k L' (p.ht - 1) = L (p.ht - 1) ∧ (ws.set (c.pools + k) v)[c.pools + p.ht - 1]? = ws[c.pools + p.ht - 1]?) ∨ pup sw k (sw k + 1) (p.ht - 1) = sw (p.ht - 1) + 1
    by_cases e : p.ht - 1 = k
    · right
      rw [e, pup_me]
    · left
      rw [pup_ne e, pup_ne e]
      exact ⟨rfl, rfl, set_get_ne (by omega)⟩
  · have hpg : p.er.gv = true := by rcases a3.pc with e | ⟨-, e⟩ | ⟨e, -⟩ <;> first | exact e | omega
    have h9 := a3.gw hpg
    have h9' : 1 ≤ p.tw := h9.1
    show (ws.set (c.pools + k) v)[c.links + p.tw.toNat - 1]? = ws[c.links + p.tw.toNat - 1]?
    exact set_get_ne (plc_ne c hk (by omega)).1
/-- A step. -/
theorem QInv.step (h : QInv c s ops L sw) (hn : c.nT ≤ 1024) (ho : ops[j]? = some o) (hp : o.pc ≠ 0) (hx : s.ws[o.at c]? = some x) : ∃ L' sw', QInv c (o.st c s x) (ops.set j (o.op x)) L' sw' := by
  obtain ⟨⟨seen, steps, h1⟩, hfl⟩ := (h.op j o ho).resolve_left hp
  have ht1 : 1 ≤ o.ht := h1.ht1
  have ht6 : o.ht ≤ 6 := h1.ht6
  have th0 : 0 ≤ o.th := h1.th0
  have th1 : o.th < 64 := h1.th1
  have fl0 : 0 ≤ o.fl := h1.fl
  have hk : o.ht - 1 < 6 := by omega
  have hpe : c.pools + o.ht - 1 = c.pools + (o.ht - 1) := by omega
  have hpc : o.pc = 4 ∨ (o.gv = false ∧ (o.pc = 5 ∨ o.pc = 6)) ∨ (o.gv = true ∧ (o.pc = 7 ∨ o.pc = 8)) := h1.pc
  have hgw : o.gv = true → 1 ≤ o.tw ∧ o.tw ≤ c.nT ∧ c.hs[o.tw.toNat - 1]? = some o.ht := h1.gw
  by_cases p4 : o.pc = 4
  · have hat : o.at c = c.pools + (o.ht - 1) := POk.at_ne (c := c) (o := o.er) h1 (by show o.pc ≠ 5 ∧ o.pc ≠ 7; omega)
    have hx' := hx
    rw [hat] at hx'
    obtain ⟨a, b, x0⟩ := h.si.at_head hn hk hx'
    obtain ⟨hd1, hd2⟩ := h.si.hdle hk
    have hst : o.st c s x = { s with ws := s.ws, log := s.log ++ [⟨o.th, (o.at c : Int), 1, x, x, false⟩] } := by unfold PO.st; rw [if_pos (.inl p4)]
    rw [hst]
    cases hgv : o.gv with
    | true =>
      have hop : o.op x = { o with w := x, pc := 7 } := by unfold PO.op; rw [if_pos p4, if_pos hgv]
      rw [hop]
      refine ⟨L, sw, h.own ho hp (h.si.logs _) (fun _ => .inr rfl) (fun _ _ => rfl) (.inr ⟨⟨sw (o.ht - 1), 1, ?_⟩, by show o.fl ≤ _; omega⟩) rfl (fun _ => rfl)⟩
      refine ⟨ht1, ht6, th0, th1, fl0, rfl, .inr (.inr ⟨hgv, .inl rfl⟩), fun _ => ⟨b, h.si.sw _ hk, Int.le_refl _, ?_, fun _ => ?_⟩, fun e => (by rw [show (o.gv = false) from e] at hgv; cases hgv), fun e => by simp [PO.er] at e, fun e => by simp [PO.er] at e, hgw, fun _ => rfl, fun e => by simp [PO.er] at e, rfl⟩
      · show x % 65536 ≤ _
        omega
      · show s.ws[c.pools + o.ht - 1]? = some x
        rw [hpe]
        exact hx'
    | false =>
      by_cases hz : x % 65536 = 0
      · have hop : o.op x = { o with w := x, tw := 0, pc := 0, e := 6 } := by unfold PO.op; rw [if_pos p4, if_neg (by rw [hgv]; decide), if_pos hz]
        rw [hop]
        exact ⟨L, sw, h.own ho hp (h.si.logs _) (fun _ => .inr rfl) (fun _ _ => rfl) (.inl rfl) rfl (fun e => by rw [hgv] at e; cases e)⟩
      · have hop : o.op x = { o with w := x, tw := x % 65536, pc := 5 } := by unfold PO.op; rw [if_pos p4, if_neg (by rw [hgv]; decide), if_neg hz]
        rw [hop]
        refine ⟨L, sw, h.own ho hp (h.si.logs _) (fun _ => .inr rfl) (fun _ _ => rfl) (.inr ⟨⟨sw (o.ht - 1), 1, ?_⟩, by show o.fl ≤ _; omega⟩) rfl (fun e => by rw [hgv] at e; cases e)⟩
        refine ⟨ht1, ht6, th0, th1, fl0, rfl, .inr (.inl ⟨hgv, .inl rfl⟩), fun _ => ⟨b, h.si.sw _ hk, Int.le_refl _, ?_, fun _ => ?_⟩, fun _ _ => ⟨?_, ?_, rfl⟩, fun e => by simp [PO.er] at e, fun e => by simp [PO.er] at e, fun e => (by rw [show (o.gv = true) from e] at hgv; cases hgv), fun _ => rfl, fun e => by simp [PO.er] at e, rfl⟩
        · show x % 65536 ≤ _
          omega
        · show s.ws[c.pools + o.ht - 1]? = some x
          rw [hpe]
          exact hx'
        · show 1 ≤ x % 65536
          omega
        · show x % 65536 ≤ _
          omega
  · have ld := h1.ld p4
    have l1 : o.w / 65536 = seen := ld.1
    have l2 : 0 ≤ seen := ld.2.1
    have l3 : seen ≤ sw (o.ht - 1) := ld.2.2.1
    have l4 : o.w % 65536 ≤ c.nT := ld.2.2.2.1
    have l5 : seen = sw (o.ht - 1) → s.ws[c.pools + o.ht - 1]? = some o.w := ld.2.2.2.2
    by_cases p57 : o.pc = 5 ∨ o.pc = 7
    · obtain ⟨hat', tw1', tw2'⟩ := POk.at_lk (c := c) (o := o.er) h1 p57
      have hat : o.at c = c.links + o.tw.toNat - 1 := hat'
      have tw1 : 1 ≤ o.tw := tw1'
      have tw2 : o.tw ≤ c.nT := tw2'
      have hx' := hx
      rw [hat] at hx'
      obtain ⟨y, hy, y0, y1⟩ := h.si.lo (o.tw.toNat - 1) (by omega)
      rw [show c.links + (o.tw.toNat - 1) = c.links + o.tw.toNat - 1 by omega, hx'] at hy
      obtain rfl : x = y := by simpa using hy
      rcases p57 with p5 | p7
      · have hgv : o.gv = false := by rcases hpc with e | ⟨e, -⟩ | ⟨-, e⟩ <;> first | exact e | omega
        have hst : o.st c s x = { s with ws := s.ws, log := s.log ++ [⟨o.th, (o.at c : Int), 1, x, x, false⟩] } := by unfold PO.st; rw [if_pos (.inr p5)]
        have hop : o.op x = { o with bl := x, pc := 6 } := by unfold PO.op; rw [if_neg p4, if_pos p5]
        have htk : 1 ≤ o.tw ∧ o.tw ≤ c.nT ∧ o.tw = o.w % 65536 := h1.tk hgv p4
        rw [hst, hop]
        refine ⟨L, sw, h.own ho hp (h.si.logs _) (fun _ => .inr rfl) (fun _ _ => rfl) (.inr ⟨⟨seen, 2, ?_⟩, by show o.fl ≤ _; omega⟩) rfl (fun e => absurd (hgv.symm.trans e) (by decide))⟩
        refine ⟨ht1, ht6, th0, th1, fl0, rfl, .inr (.inl ⟨hgv, .inr rfl⟩), fun _ => ⟨l1, l2, l3, l4, l5⟩, fun _ _ => htk, fun _ => ⟨y0, y1, fun e => ?_⟩, fun e => by simp [PO.er] at e, fun e => (by rw [show (o.gv = true) from e] at hgv; cases hgv), fun e => by simp [PO.er] at e, fun _ => rfl, rfl⟩
        have h5 := l5 e
        rw [hpe] at h5
        obtain ⟨a, b, -⟩ := h.si.at_head hn hk h5
        have hh : hd0 (L (o.ht - 1)) = o.tw := by rw [← a]; exact htk.2.2.symm
        cases hl : L (o.ht - 1) with
        | nil => rw [hl] at hh; simp [hd0] at hh; omega
        | cons z r =>
          rw [hl] at hh
          obtain rfl : z = o.tw := by simpa [hd0] using hh
          refine ⟨r, by show L (o.ht - 1) = _; exact hl, ?_⟩
          have h6 := h.si.link (o.ht - 1) hk 0 o.tw (by rw [hl]; rfl)
          rw [hx', hl] at h6
          show x = hd0 r
          rw [hd0_tail o.tw r]
          simpa using h6
      · have hgv : o.gv = true := by rcases hpc with e | ⟨-, e⟩ | ⟨e, -⟩ <;> first | exact e | omega
        have hst : o.st c s x = { s with ws := s.ws.set (c.links + o.tw.toNat - 1) (o.w % 65536), log := s.log ++ [⟨o.th, (o.at c : Int), 2, x, o.w % 65536, false⟩] } := by unfold PO.st; rw [if_neg (by omega), if_pos p7, hat]
        have hop : o.op x = { o with pc := 8 } := by unfold PO.op; rw [if_neg p4, if_neg (by omega), if_pos p7]
        have hout : s.out o.tw = some true := h.go j o ho hp hgv
        rw [hst, hop]
        refine ⟨L, sw, h.own ho hp (h.si.relink (x := o.tw) (by rw [hout]; rfl) (by omega) l4 _) (fun i => ?_) (fun k hk => ?_) (.inr ⟨⟨seen, 2, ?_⟩, by show o.fl ≤ _; omega⟩) rfl (fun _ => rfl)⟩
        · by_cases e : c.links + o.tw.toNat - 1 = i
          · left
            intro u p huj hu hp8 ei
            have hpp : p.pc ≠ 0 := by omega
            obtain ⟨⟨b1, b2, b3⟩, -⟩ := (h.op u p hu).resolve_left hpp
            have hpg : p.gv = true := by
              have hh : p.pc = 4 ∨ (p.gv = false ∧ (p.pc = 5 ∨ p.pc = 6)) ∨ (p.gv = true ∧ (p.pc = 7 ∨ p.pc = 8)) := b3.pc
              rcases hh with e | ⟨-, e⟩ | ⟨e, -⟩ <;> first | exact e | omega
            have hp1 : 1 ≤ p.tw ∧ p.tw ≤ c.nT ∧ c.hs[p.tw.toNat - 1]? = some p.ht := b3.gw hpg
            exact huj (h.gd u j p o hu ho hpp hp hpg hgv (by omega))
          · right
            rw [set_get_ne e]
        · rw [set_get_ne (plc_ne c hk (by omega)).2]
        · refine ⟨ht1, ht6, th0, th1, fl0, rfl, .inr (.inr ⟨hgv, .inr rfl⟩), fun _ => ⟨l1, l2, l3, l4, fun e => ?_⟩, fun e => (by rw [show (o.gv = false) from e] at hgv; cases hgv), fun e => by simp [PO.er] at e, fun _ => ?_, hgw, fun e => by simp [PO.er] at e, fun _ => rfl, rfl⟩
          · show (s.ws.set _ _)[c.pools + o.ht - 1]? = _
            rw [hpe, set_get_ne (plc_ne c hk (by omega)).2, ← hpe]
            exact l5 e
          · show (s.ws.set _ _)[c.links + o.tw.toNat - 1]? = _
            exact set_get_me hx'
    · have hat : o.at c = c.pools + (o.ht - 1) := POk.at_ne (c := c) (o := o.er) h1 (by show o.pc ≠ 5 ∧ o.pc ≠ 7; omega)
      have hx' := hx
      rw [hat] at hx'
      obtain ⟨a, b, x0⟩ := h.si.at_head hn hk hx'
      have hll : ∀ a : Acc, ((s.log ++ [a]).length : Int) = s.log.length + 1 := fun a => by simp
      by_cases hw : x = o.w
      · have hseen : seen = sw (o.ht - 1) := by rw [← l1, ← hw, b]
        have hst : o.st c s x = { ws := s.ws.set (c.pools + (o.ht - 1)) o.nw, log := s.log ++ [⟨o.th, (o.at c : Int), 4, x, o.nw, true⟩], out := pup s.out o.tw (if o.gv then none else some false), gens := if o.gv then s.gens.set (o.tw.toNat - 1) ((s.gens[o.tw.toNat - 1]?).getD 0 + 1) else s.gens } := by
          unfold PO.st
          rw [if_neg (by omega), if_neg (by omega), if_pos hw, hat]
        have hop : o.op x = { o with pc := 0 } := by unfold PO.op; rw [if_neg p4, if_neg (by omega), if_neg (by omega), if_pos hw]
        rw [hst, hop]
        cases hgv : o.gv with
        | true =>
          have p8 : o.pc = 8 := by rcases hpc with e | ⟨e, -⟩ | ⟨-, e⟩ <;> first | omega | (rw [hgv] at e; cases e)
          obtain ⟨g1, g2, g3⟩ := hgw hgv
          have hout : s.out o.tw = some true := h.go j o ho hp hgv
          have hnw : o.nw = o.tw + 65536 * (sw (o.ht - 1) + 1) := by unfold PO.nw; rw [if_pos hgv, l1, hseen]
          have hlk : s.ws[c.links + o.tw.toNat - 1]? = some (o.w % 65536) := h1.lk p8
          rw [← hw, a] at hlk
          have hsi := h.si.push hk (x := o.tw) g1 g2 (by rw [g3, show o.ht - 1 + 1 = o.ht by omega]) (by rw [hout]; rfl) hlk (s.log ++ [⟨o.th, (o.at c : Int), 4, x, o.nw, true⟩]) (s.gens.set (o.tw.toNat - 1) ((s.gens[o.tw.toNat - 1]?).getD 0 + 1)) (by rw [List.length_set]; exact h.si.gl)
          rw [← hnw] at hsi
          simp only [if_true]
          refine ⟨_, _, hsi, fun u p hu => ?_, fun u p hu hpc hpg => ?_, fun u v p q hu hv hpc hqc hpg hqg e => ?_, fun k hk' => ?_, fun i g hg => ?_⟩
          · rcases q_set hu with ⟨rfl, rfl⟩ | ⟨hne, hu⟩
            · exact .inl rfl
            · refine (h.op u p hu).imp id fun hq => ⟨hq.1.others hk, ?_⟩
              have := hq.2
              have := hll ⟨o.th, (o.at c : Int), 4, x, o.nw, true⟩
              show p.fl ≤ ((s.log ++ [_]).length : Int)
              omega
          · rcases q_set hu with ⟨rfl, rfl⟩ | ⟨hne, hu⟩
            · exact absurd rfl hpc
            · show pup s.out o.tw none p.tw = some true
              rw [pup_ne (fun e => hne (h.gd u j p o hu ho hpc hp hpg hgv e))]
              exact h.go u p hu hpc hpg
          · rcases q_set hu with ⟨rfl, rfl⟩ | ⟨hne, hu⟩
            · exact absurd rfl hpc
            · rcases q_set hv with ⟨rfl, rfl⟩ | ⟨hne2, hv⟩
              · exact absurd rfl hqc
              · exact h.gd u v p q hu hv hpc hqc hpg hqg e
          · have h3 := h.swl (o.ht - 1) hk
            have h4 := h.swl k hk'
            have := hll ⟨o.th, (o.at c : Int), 4, x, o.nw, true⟩
            show pup sw (o.ht - 1) (sw (o.ht - 1) + 1) k ≤ ((s.log ++ [_]).length : Int)
            by_cases e : k = o.ht - 1
            · subst e; rw [pup_me]; omega
            · rw [pup_ne e]; omega
          · have hg' : (s.gens.set (o.tw.toNat - 1) ((s.gens[o.tw.toNat - 1]?).getD 0 + 1))[i]? = some g := hg
            have := hll ⟨o.th, (o.at c : Int), 4, x, o.nw, true⟩
            show 0 ≤ g ∧ g ≤ ((s.log ++ [_]).length : Int)
            obtain ⟨g0, hg0⟩ : ∃ g0, s.gens[o.tw.toNat - 1]? = some g0 := ⟨_, List.getElem?_eq_getElem (by rw [h.si.gl]; omega)⟩
            have hb0 := h.gb _ _ hg0
            by_cases e : o.tw.toNat - 1 = i
            · subst e
              rw [set_get_me hg0, hg0] at hg'
              simp at hg'
              omega
            · rw [set_get_ne e] at hg'
              have := h.gb i g hg'
              omega
        | false =>
          have p6 : o.pc = 6 := by rcases hpc with e | ⟨-, e⟩ | ⟨e, -⟩ <;> first | omega | (rw [hgv] at e; cases e)
          have hbl : 0 ≤ o.bl ∧ o.bl ≤ c.nT ∧ (seen = sw (o.ht - 1) → ∃ r, L (o.ht - 1) = o.tw :: r ∧ o.bl = hd0 r) := h1.bl p6
          obtain ⟨b1, b2, b3⟩ := hbl
          obtain ⟨r, hr, hbl⟩ := b3 hseen
          have hnw : o.nw = hd0 r + 65536 * (sw (o.ht - 1) + 1) := by unfold PO.nw; rw [if_neg (by rw [hgv]; decide), l1, hseen, hbl]
          have hsi := h.si.pop hk hr (s.log ++ [⟨o.th, (o.at c : Int), 4, x, o.nw, true⟩]) hn
          rw [← hnw] at hsi
          have hxm : o.tw ∈ L (o.ht - 1) := by rw [hr]; exact List.mem_cons_self
          have hno : ∀ y, s.out y = some true → y ≠ o.tw := fun y hy e => by
            subst e
            exact ((h.si.out o.tw).1 (by rw [hy]; rfl)).2 _ hk hxm
          simp only [Bool.false_eq_true, if_false]
          refine ⟨_, _, hsi, fun u p hu => ?_, fun u p hu hpc hpg => ?_, fun u v p q hu hv hpc hqc hpg hqg e => ?_, fun k hk' => ?_, fun i g hg => ?_⟩
          · rcases q_set hu with ⟨rfl, rfl⟩ | ⟨hne, hu⟩
            · exact .inl rfl
            · refine (h.op u p hu).imp id fun hq => ⟨hq.1.others hk, ?_⟩
              have := hq.2
              have := hll ⟨o.th, (o.at c : Int), 4, x, o.nw, true⟩
              show p.fl ≤ ((s.log ++ [_]).length : Int)
              omega
          · rcases q_set hu with ⟨rfl, rfl⟩ | ⟨hne, hu⟩
            · exact absurd rfl hpc
            · have h8 := h.go u p hu hpc hpg
              show pup s.out o.tw (some false) p.tw = some true
              rw [pup_ne (hno _ h8)]
              exact h8
          · rcases q_set hu with ⟨rfl, rfl⟩ | ⟨hne, hu⟩
            · exact absurd rfl hpc
            · rcases q_set hv with ⟨rfl, rfl⟩ | ⟨hne2, hv⟩
              · exact absurd rfl hqc
              · exact h.gd u v p q hu hv hpc hqc hpg hqg e
          · have h3 := h.swl (o.ht - 1) hk
            have h4 := h.swl k hk'
            have := hll ⟨o.th, (o.at c : Int), 4, x, o.nw, true⟩
            show pup sw (o.ht - 1) (sw (o.ht - 1) + 1) k ≤ ((s.log ++ [_]).length : Int)
            by_cases e : k = o.ht - 1
            · subst e; rw [pup_me]; omega
            · rw [pup_ne e]; omega
          · have := hll ⟨o.th, (o.at c : Int), 4, x, o.nw, true⟩
            have h5 := h.gb i g hg
            show 0 ≤ g ∧ g ≤ ((s.log ++ [_]).length : Int)
            omega
      · have hst : o.st c s x = { s with ws := s.ws, log := s.log ++ [⟨o.th, (o.at c : Int), 4, x, x, false⟩] } := by
          unfold PO.st
          rw [if_neg (by omega), if_neg (by omega), if_neg hw]
        rw [hst]
        cases hgv : o.gv with
        | true =>
          have hop : o.op x = { o with pc := 4 } := by unfold PO.op; rw [if_neg p4, if_neg (by omega), if_neg (by omega), if_neg hw, if_pos hgv]
          rw [hop]
          refine ⟨L, sw, h.own ho hp (h.si.logs _) (fun _ => .inr rfl) (fun _ _ => rfl) (.inr ⟨⟨0, 0, ?_⟩, by show o.fl ≤ _; omega⟩) rfl (fun _ => rfl)⟩
          exact ⟨ht1, ht6, th0, th1, fl0, rfl, .inl rfl, fun e => absurd rfl e, fun _ e => absurd rfl e, fun e => by simp [PO.er] at e, fun e => by simp [PO.er] at e, hgw, fun e => by simp [PO.er] at e, fun e => by simp [PO.er] at e, rfl⟩
        | false =>
          by_cases ht : o.fl + 1 = o.tr
          · have hop : o.op x = { o with tw := 0, fl := o.fl + 1, pc := 0, e := 11 } := by unfold PO.op; rw [if_neg p4, if_neg (by omega), if_neg (by omega), if_neg hw, if_neg (by rw [hgv]; decide), if_pos ht]
            rw [hop]
            exact ⟨L, sw, h.own ho hp (h.si.logs _) (fun _ => .inr rfl) (fun _ _ => rfl) (.inl rfl) rfl (fun e => by rw [hgv] at e; cases e)⟩
          · have hop : o.op x = { o with tw := 0, fl := o.fl + 1, pc := 4 } := by unfold PO.op; rw [if_neg p4, if_neg (by omega), if_neg (by omega), if_neg hw, if_neg (by rw [hgv]; decide), if_neg ht]
            rw [hop]
            refine ⟨L, sw, h.own ho hp (h.si.logs _) (fun _ => .inr rfl) (fun _ _ => rfl) (.inr ⟨⟨0, 0, ?_⟩, by show o.fl + 1 ≤ _; omega⟩) rfl (fun e => by rw [hgv] at e; cases e)⟩
            exact ⟨ht1, ht6, th0, th1, by show 0 ≤ o.fl + 1; omega, rfl, .inl rfl, fun e => absurd rfl e, fun _ e => absurd rfl e, fun e => by simp [PO.er] at e, fun e => by simp [PO.er] at e, fun e => (by rw [show (o.gv = true) from e] at hgv; cases hgv), fun e => by simp [PO.er] at e, fun e => by simp [PO.er] at e, rfl⟩
/-- A take is begun. -/
theorem QInv.begT (h : QInv c s ops L sw) {th tr : Int} {k : Nat} (t0 : 0 ≤ th) (t1 : th < 64) (k1 : 1 ≤ k) (k6 : k ≤ 6) : QInv c s (ops ++ [PO.take th k tr]) L sw := by
  refine ⟨h.si, fun u p hu => ?_, fun u p hu hpc hpg => ?_, fun u v p q hu hv hpc hqc hpg hqg e => ?_, h.swl, h.gb⟩
  · rcases q_snoc hu with ⟨rfl, rfl⟩ | ⟨-, hu⟩
    · exact .inr ⟨⟨0, 0, k1, k6, t0, t1, Int.le_refl _, rfl, .inl rfl, fun e => absurd rfl e, fun _ e => absurd rfl e, fun e => by simp [PO.er, PO.take] at e, fun e => by simp [PO.er, PO.take] at e, fun e => by simp [PO.er, PO.take] at e, fun e => by simp [PO.er, PO.take] at e, fun e => by simp [PO.er, PO.take] at e, rfl⟩, by show (0 : Int) ≤ _; omega⟩
    · exact h.op u p hu
  · rcases q_snoc hu with ⟨rfl, rfl⟩ | ⟨-, hu⟩
    · exact absurd hpg (by simp [PO.take])
    · exact h.go u p hu hpc hpg
  · rcases q_snoc hu with ⟨rfl, rfl⟩ | ⟨-, hu⟩
    · exact absurd hpg (by simp [PO.take])
    · rcases q_snoc hv with ⟨rfl, rfl⟩ | ⟨-, hv⟩
      · exact absurd hqg (by simp [PO.take])
      · exact h.gd u v p q hu hv hpc hqc hpg hqg e
/-- A give is begun. -/
theorem QInv.begG (h : QInv c s ops L sw) {th x : Int} {k : Nat} (t0 : 0 ≤ th) (t1 : th < 64) (hs : s.out x = some false) (hk : c.hs[x.toNat - 1]? = some k) (k1 : 1 ≤ k) (k6 : k ≤ 6) : QInv c { s with out := pup s.out x (some true) } (ops ++ [PO.give th k x]) L sw := by
  have hout : (s.out x).isSome = true := by rw [hs]; rfl
  have hx := ((h.si.out x).1 hout).1
  have hno : ∀ (u : Nat) (p : PO), ops[u]? = some p → p.pc ≠ 0 → p.gv = true → p.tw ≠ x := fun u p hu hpc hpg e => by
    have := h.go u p hu hpc hpg
    rw [e, hs] at this
    cases this
  refine ⟨h.si.mark hout true, fun u p hu => ?_, fun u p hu hpc hpg => ?_, fun u v p q hu hv hpc hqc hpg hqg e => ?_, h.swl, h.gb⟩
  · rcases q_snoc hu with ⟨rfl, rfl⟩ | ⟨-, hu⟩
    · exact .inr ⟨⟨0, 0, k1, k6, t0, t1, Int.le_refl _, rfl, .inl rfl, fun e => absurd rfl e, fun _ e => absurd rfl e, fun e => by simp [PO.er, PO.give] at e, fun e => by simp [PO.er, PO.give] at e, fun _ => ⟨hx.1, hx.2, hk⟩, fun e => by simp [PO.er, PO.give] at e, fun e => by simp [PO.er, PO.give] at e, rfl⟩, by show (0 : Int) ≤ _; omega⟩
    · exact h.op u p hu
  · rcases q_snoc hu with ⟨rfl, rfl⟩ | ⟨-, hu⟩
    · show pup s.out x (some true) x = _
      rw [pup_me]
    · show pup s.out x (some true) p.tw = _
      rw [pup_ne (hno u p hu hpc hpg)]
      exact h.go u p hu hpc hpg
  · rcases q_snoc hu with ⟨rfl, rfl⟩ | ⟨-, hu⟩
    · rcases q_snoc hv with ⟨rfl, rfl⟩ | ⟨-, hv⟩
      · rfl
      · exact absurd e.symm (hno v q hv hqc hqg)
    · rcases q_snoc hv with ⟨rfl, rfl⟩ | ⟨-, hv⟩
      · exact absurd e (hno u p hu hpc hpg)
      · exact h.gd u v p q hu hv hpc hqc hpg hqg e
end
end Go.Lf
