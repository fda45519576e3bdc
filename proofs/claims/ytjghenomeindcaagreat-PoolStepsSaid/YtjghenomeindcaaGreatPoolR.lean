/- A run of six threads over the pools, as plain data. No program is named here. -/
import Derived.Test.YtjghenomeindcaaGreatPoolP
set_option linter.unusedVariables false
set_option linter.unusedSimpArgs false
namespace Go.Lf
structure PRun where
  s : PSt
  ops : Nat → Option PO
  of : Nat → Int
  mine : Nat → List Int
  L : Nat → List Int
  sw : Nat → Int
  seen : Nat → Int
  steps : Nat → Int
structure PInv (c : Cfg) (R : PRun) : Prop where
  si : SInv c R.s R.L R.sw
  op : ∀ t o, t < 6 → R.ops t = some o → POk c R.s.ws R.L R.sw o (R.seen t) (R.steps t) ∧ o.th = t ∧ R.of t = (if o.gv then o.tw else (o.ht : Int)) ∧ (o.gv = true → (R.mine t).head? = some o.tw) ∧ o.fl ≤ R.s.log.length
  mi : ∀ t, t < 6 → ∀ x ∈ R.mine t, ∃ b, R.s.out x = some b ∧ (b = true → ∃ o, R.ops t = some o ∧ o.gv = true ∧ o.tw = x)
  md : ∀ t u x, t < 6 → u < 6 → x ∈ R.mine t → x ∈ R.mine u → t = u
  mn : ∀ t, t < 6 → (R.mine t).Nodup
  swl : ∀ h, h < 6 → R.sw h ≤ R.s.log.length
  gb : ∀ (i : Nat) (g : Int), R.s.gens[i]? = some g → 0 ≤ g ∧ g ≤ R.s.log.length
def PRun.begT (R : PRun) (t ht : Nat) : PRun := { R with ops := pup R.ops t (some (PO.take t ht 0)), of := pup R.of t (ht : Int) }
def PRun.begG (R : PRun) (t ht : Nat) (x : Int) : PRun := { R with s := { R.s with out := pup R.s.out x (some true) }, ops := pup R.ops t (some (PO.give t ht x)), of := pup R.of t x }
def PRun.go (c : Cfg) (R : PRun) (t : Nat) (o : PO) (x : Int) : PRun :=
  if o.pc = 4 then { R with s := o.st c R.s x, ops := pup R.ops t (if (o.op x).pc = 0 then none else some (o.op x)), seen := pup R.seen t (R.sw (o.ht - 1)), steps := pup R.steps t 1 }
  else if o.pc = 5 ∨ o.pc = 7 then { R with s := o.st c R.s x, ops := pup R.ops t (some (o.op x)), steps := pup R.steps t (R.steps t + 1) }
  else if x = o.w then
    { R with s := o.st c R.s x, ops := pup R.ops t none, steps := pup R.steps t (R.steps t + 1), sw := pup R.sw (o.ht - 1) (R.sw (o.ht - 1) + 1), L := pup R.L (o.ht - 1) (if o.gv then o.tw :: R.L (o.ht - 1) else (R.L (o.ht - 1)).tail), mine := pup R.mine t (if o.gv then (R.mine t).tail else R.mine t ++ [o.tw]) }
  else { R with s := o.st c R.s x, ops := pup R.ops t (some (o.op x)), steps := pup R.steps t (R.steps t + 1) }
theorem top_parts {t g : Int} (t0 : 0 ≤ t) (t1 : t < 65536) : (t + 65536 * g) % 65536 = t ∧ (t + 65536 * g) / 65536 = g := by omega
section
variable {c : Cfg} {R : PRun} {t : Nat} {o : PO} {x : Int}
/-- The word at a head. -/
theorem SInv.at_head {s : PSt} {L : Nat → List Int} {sw : Nat → Int} (h : SInv c s L sw) (hn : c.nT ≤ 1024) {k : Nat} (hk : k < 6) (hx : s.ws[c.pools + k]? = some x) : x % 65536 = hd0 (L k) ∧ x / 65536 = sw k ∧ 0 ≤ x := by
  have h1 := h.head k hk
  rw [hx] at h1
  obtain ⟨a, b⟩ := h.hdle hk
  have := h.sw k hk
  simp only [Option.some.injEq] at h1
  omega
theorem POk.at_ne {ws : List Int} {L : Nat → List Int} {sw : Nat → Int} {a b : Int} (h : POk c ws L sw o a b) (hp : o.pc ≠ 5 ∧ o.pc ≠ 7) : o.at c = c.pools + (o.ht - 1) := by
  have := h.ht1
  unfold PO.at
  rw [if_neg (by omega)]
  omega
theorem POk.at_lk {ws : List Int} {L : Nat → List Int} {sw : Nat → Int} {a b : Int} (h : POk c ws L sw o a b) (hp : o.pc = 5 ∨ o.pc = 7) : o.at c = c.links + o.tw.toNat - 1 ∧ 1 ≤ o.tw ∧ o.tw ≤ c.nT := by
  refine ⟨?_, ?_⟩
  · unfold PO.at
    rw [if_pos hp]
  · rcases h.pc with e | ⟨e, e1⟩ | ⟨e, e1⟩
    · omega
    · have := h.tk e (by omega); omega
    · have := h.gw e; omega
/-- There is a word where the next step makes its access. -/
theorem PInv.word (h : PInv c R) (ht : t < 6) (ho : R.ops t = some o) : ∃ x, R.s.ws[o.at c]? = some x := by
  obtain ⟨h1, -⟩ := h.op t o ht ho
  by_cases hp : o.pc = 5 ∨ o.pc = 7
  · obtain ⟨e, a, b⟩ := h1.at_lk hp
    obtain ⟨y, hy, -⟩ := h.si.lo (o.tw.toNat - 1) (by omega)
    exact ⟨y, by rw [e, show c.links + o.tw.toNat - 1 = c.links + (o.tw.toNat - 1) by omega]; exact hy⟩
  · rw [h1.at_ne (by omega)]
    exact ⟨_, h.si.head _ (by have := h1.ht6; have := h1.ht1; omega)⟩
/-- A compare-and-swap succeeds where nothing succeeded since. -/
theorem PInv.swaps (h : PInv c R) (hn : c.nT ≤ 1024) (ht : t < 6) (ho : R.ops t = some o) (hp : o.pc = 6 ∨ o.pc = 8) (hx : R.s.ws[o.at c]? = some x) : (x = o.w ↔ R.seen t = R.sw (o.ht - 1)) ∧ R.steps t = 2 := by
  obtain ⟨h1, -⟩ := h.op t o ht ho
  have hk : o.ht - 1 < 6 := by have := h1.ht6; have := h1.ht1; omega
  rw [h1.at_ne (by omega)] at hx
  obtain ⟨a, b, -⟩ := h.si.at_head hn hk hx
  obtain ⟨l1, l2, l3, l4, l5⟩ := h1.ld (by omega)
  refine ⟨⟨fun e => ?_, fun e => ?_⟩, h1.s2 hp⟩
  · subst e; omega
  · have := l5 e
    rw [show c.pools + o.ht - 1 = c.pools + (o.ht - 1) by have := h1.ht1; omega, hx] at this
    simpa using this
theorem PInv.begT (h : PInv c R) (ht : t < 6) (ho : R.ops t = none) {k : Nat} (k1 : 1 ≤ k) (k6 : k ≤ 6) : PInv c (R.begT t k) := by
  refine ⟨h.si, fun u o hu hou => ?_, fun u hu x hx => ?_, h.md, h.mn, h.swl, h.gb⟩
  · by_cases e : u = t
    · subst e
      have hou' : pup R.ops u (some (PO.take u k 0)) u = some o := hou
      rw [pup_me] at hou'
      cases hou'
      refine ⟨⟨k1, k6, by simp [PO.take], by simp [PO.take]; omega, by simp [PO.take], by simp [PO.take], .inl rfl, fun e => absurd rfl e, fun _ e => absurd rfl e, fun e => by simp [PO.take] at e, fun e => by simp [PO.take] at e, fun e => by simp [PO.take] at e, fun e => by simp [PO.take] at e, fun e => by simp [PO.take] at e, rfl⟩, rfl, ?_, fun e => by simp [PO.take] at e, by simp [PO.take]⟩
      show pup R.of u _ u = _
      rw [pup_me]
      rfl
    · have hou' : pup R.ops t (some (PO.take t k 0)) u = some o := hou
      rw [pup_ne e] at hou'
      obtain ⟨a1, a2, a3, a4⟩ := h.op u o hu hou'
      refine ⟨a1, a2, ?_, a4⟩
      show pup R.of t _ u = _
      rw [pup_ne e]
      exact a3
  · obtain ⟨b, h1, h2⟩ := h.mi u hu x hx
    refine ⟨b, h1, fun e => ?_⟩
    obtain ⟨o, h3, h4⟩ := h2 e
    refine ⟨o, ?_, h4⟩
    show pup R.ops t _ u = _
    rw [pup_ne (by intro e; subst e; rw [ho] at h3; cases h3)]
    exact h3
theorem PInv.begG (h : PInv c R) (ht : t < 6) (ho : R.ops t = none) {x : Int} (hm : (R.mine t).head? = some x) {k : Nat} (hk : c.hs[x.toNat - 1]? = some k) (k1 : 1 ≤ k) (k6 : k ≤ 6) : PInv c (R.begG t k x) := by
  have hmem : x ∈ R.mine t := List.mem_of_head? hm
  obtain ⟨b, hb, hb2⟩ := h.mi t ht x hmem
  have hout : (R.s.out x).isSome = true := by rw [hb]; rfl
  have hx := ((h.si.out x).1 hout).1
  refine ⟨h.si.mark hout true, fun u o hu hou => ?_, fun u hu y hy => ?_, h.md, h.mn, h.swl, h.gb⟩
  · by_cases e : u = t
    · subst e
      have hou' : pup R.ops u (some (PO.give u k x)) u = some o := hou
      rw [pup_me] at hou'
      cases hou'
      refine ⟨⟨k1, k6, by simp [PO.give], by simp [PO.give]; omega, by simp [PO.give], by simp [PO.give], .inl rfl, fun e => absurd rfl e, fun _ e => absurd rfl e, fun e => by simp [PO.give] at e, fun e => by simp [PO.give] at e, fun _ => ⟨hx.1, hx.2, hk⟩, fun e => by simp [PO.give] at e, fun e => by simp [PO.give] at e, rfl⟩, rfl, ?_, fun _ => hm, by simp [PO.give]⟩
      show pup R.of u _ u = _
      rw [pup_me]
      rfl
    · have hou' : pup R.ops t (some (PO.give t k x)) u = some o := hou
      rw [pup_ne e] at hou'
      obtain ⟨a1, a2, a3, a4⟩ := h.op u o hu hou'
      refine ⟨a1, a2, ?_, a4⟩
      show pup R.of t _ u = _
      rw [pup_ne e]
      exact a3
  · by_cases e : y = x
    · subst e
      obtain rfl := h.md u t y hu ht hy hmem
      refine ⟨true, ?_, fun _ => ⟨PO.give u k y, ?_, rfl, rfl⟩⟩
      · show pup R.s.out y (some true) y = _
        rw [pup_me]
      · show pup R.ops u _ u = _
        rw [pup_me]
    · obtain ⟨b', h1, h2⟩ := h.mi u hu y hy
      refine ⟨b', ?_, fun e2 => ?_⟩
      · show pup R.s.out x (some true) y = _
        rw [pup_ne e]
        exact h1
      · obtain ⟨o, h3, h4⟩ := h2 e2
        refine ⟨o, ?_, h4⟩
        show pup R.ops t _ u = _
        rw [pup_ne (by intro e; subst e; rw [ho] at h3; cases h3)]
        exact h3
/-- The tower that a thread gives back first. -/
theorem PInv.first (h : PInv c R) (ht : t < 6) (ho : R.ops t = none) {x : Int} (hm : (R.mine t).head? = some x) : R.s.out x = some false ∧ 1 ≤ x ∧ x ≤ c.nT := by
  obtain ⟨b, hb, hb2⟩ := h.mi t ht x (List.mem_of_head? hm)
  have hx := ((h.si.out x).1 (by rw [hb]; rfl)).1
  refine ⟨?_, hx⟩
  cases b with
  | false => exact hb
  | true =>
    obtain ⟨o, h3, -⟩ := hb2 rfl
    rw [ho] at h3
    cases h3
/-- Only the thread's own operation turns, and the log grows. -/
theorem PInv.own (h : PInv c R) (ht : t < 6) (ho : R.ops t = some o) {o' : Option PO} {ws' : List Int} {a : Acc} {seen' steps' : Int} (hsi : SInv c { R.s with ws := ws', log := R.s.log ++ [a] } R.L R.sw)
    (hw : ∀ i, (∀ u p, u < 6 → u ≠ t → R.ops u = some p → p.pc = 8 → i ≠ c.links + p.tw.toNat - 1) ∨ ws'[i]? = R.s.ws[i]?) (hw2 : ∀ k, k < 6 → ws'[c.pools + k]? = R.s.ws[c.pools + k]?)
    (hnew : ∀ p, o' = some p → POk c ws' R.L R.sw p seen' steps' ∧ p.th = t ∧ R.of t = (if p.gv then p.tw else (p.ht : Int)) ∧ (p.gv = true → (R.mine t).head? = some p.tw) ∧ p.fl ≤ R.s.log.length + 1)
    (hgv : o.gv = true → ∃ p, o' = some p ∧ p.gv = true ∧ p.tw = o.tw) :
    PInv c { R with s := { R.s with ws := ws', log := R.s.log ++ [a] }, ops := pup R.ops t o', seen := pup R.seen t seen', steps := pup R.steps t steps' } := by
  have hll : ((R.s.log ++ [a]).length : Int) = R.s.log.length + 1 := by simp
  refine ⟨hsi, fun u p hu hup => ?_, fun u hu x hx => ?_, h.md, h.mn, fun k hk => ?_, fun i g hg => ?_⟩
  · by_cases e : u = t
    · subst e
      have hup' : pup R.ops u o' u = some p := hup
      rw [pup_me] at hup'
      obtain ⟨a1, a2, a3, a4, a5⟩ := hnew p hup'
      refine ⟨?_, a2, a3, a4, ?_⟩
      · show POk c ws' R.L R.sw p (pup R.seen u seen' u) (pup R.steps u steps' u)
        rw [pup_me, pup_me]
        exact a1
      · show p.fl ≤ ((R.s.log ++ [a]).length : Int)
        omega
    · have hup' : pup R.ops t o' u = some p := hup
      rw [pup_ne e] at hup'
      obtain ⟨a1, a2, a3, a4, a5⟩ := h.op u p hu hup'
      refine ⟨?_, a2, a3, a4, ?_⟩
      · show POk c ws' R.L R.sw p (pup R.seen t seen' u) (pup R.steps t steps' u)
        rw [pup_ne e, pup_ne e]
        refine a1.keep (.inl ⟨rfl, rfl, ?_⟩) fun hp => ?_
        · have h1 := a1.ht1
          have h6 := a1.ht6
          rw [show c.pools + p.ht - 1 = c.pools + (p.ht - 1) by omega]
          exact hw2 _ (by omega)
        · exact (hw (c.links + p.tw.toNat - 1)).resolve_left fun hq => hq u p hu e hup' hp rfl
      · show p.fl ≤ ((R.s.log ++ [a]).length : Int)
        omega
  · obtain ⟨b, h1, h2⟩ := h.mi u hu x hx
    refine ⟨b, h1, fun e => ?_⟩
    obtain ⟨p, h3, h4, h5⟩ := h2 e
    by_cases eu : u = t
    · subst eu
      rw [ho] at h3
      cases h3
      obtain ⟨q, q1, q2, q3⟩ := hgv h4
      exact ⟨q, by show pup R.ops u o' u = _; rw [pup_me, q1], q2, q3.trans h5⟩
    · exact ⟨p, by show pup R.ops t o' u = _; rw [pup_ne eu]; exact h3, h4, h5⟩
  · have := h.swl k hk
    show R.sw k ≤ ((R.s.log ++ [a]).length : Int)
    omega
  · have := h.gb i g hg
    show 0 ≤ g ∧ g ≤ ((R.s.log ++ [a]).length : Int)
    omega
/-- A step. -/
theorem PInv.step (h : PInv c R) (hn : c.nT ≤ 1024) (ht : t < 6) (ho : R.ops t = some o) (hx : R.s.ws[o.at c]? = some x) : PInv c (R.go c t o x) := by
  obtain ⟨h1, hth, hof, hmine, hfl⟩ := h.op t o ht ho
  have ht1 := h1.ht1
  have ht6 := h1.ht6
  have hk : o.ht - 1 < 6 := by omega
  have hpe : c.pools + o.ht - 1 = c.pools + (o.ht - 1) := by omega
  unfold PRun.go
  by_cases p4 : o.pc = 4
  · rw [if_pos p4]
    have hat : o.at c = c.pools + (o.ht - 1) := h1.at_ne (by omega)
    rw [hat] at hx
    obtain ⟨a, b, x0⟩ := h.si.at_head hn hk hx
    obtain ⟨hd1, hd2⟩ := h.si.hdle hk
    have hst : o.st c R.s x = { R.s with ws := R.s.ws, log := R.s.log ++ [⟨o.th, (o.at c : Int), 1, x, x, false⟩] } := by unfold PO.st; rw [if_pos (.inl p4)]
    rw [hst]
    cases hgv : o.gv with
    | true =>
      have hop : o.op x = { o with w := x, pc := 7 } := by unfold PO.op; rw [if_pos p4, if_pos hgv]
      rw [hop, if_neg (show ¬ ((7 : Int) = 0) by decide)]
      refine h.own ht ho (h.si.logs _) (fun _ => .inr rfl) (fun _ _ => rfl) (fun p hp => ?_) (fun _ => ⟨_, rfl, hgv, rfl⟩)
      cases hp
      refine ⟨⟨ht1, ht6, h1.th0, h1.th1, h1.fl, h1.tr, .inr (.inr ⟨hgv, .inl rfl⟩), fun _ => ⟨b, h.si.sw _ hk, Int.le_refl _, ?_, fun _ => ?_⟩, fun e => (by rw [show (o.gv = false) from e] at hgv; cases hgv), fun e => by simp at e, fun e => by simp at e, h1.gw, fun _ => rfl, fun e => by simp at e, h1.e0⟩, hth, ?_, hmine, ?_⟩
      · show x % 65536 ≤ _
        omega
      · show R.s.ws[c.pools + o.ht - 1]? = some x
        rw [hpe]
        exact hx
      · rw [hof]
      · show o.fl ≤ _
        omega
    | false =>
      by_cases hz : x % 65536 = 0
      · have hop : o.op x = { o with w := x, tw := 0, pc := 0, e := 6 } := by unfold PO.op; rw [if_pos p4, if_neg (by rw [hgv]; decide), if_pos hz]
        rw [hop, if_pos (show ((0 : Int) = 0) from rfl)]
        exact h.own ht ho (h.si.logs _) (fun _ => .inr rfl) (fun _ _ => rfl) (fun p hp => by cases hp) (fun e => (by rw [hgv] at e; cases e))
      · have hop : o.op x = { o with w := x, tw := x % 65536, pc := 5 } := by unfold PO.op; rw [if_pos p4, if_neg (by rw [hgv]; decide), if_neg hz]
        rw [hop, if_neg (show ¬ ((5 : Int) = 0) by decide)]
        refine h.own ht ho (h.si.logs _) (fun _ => .inr rfl) (fun _ _ => rfl) (fun p hp => ?_) (fun e => (by rw [hgv] at e; cases e))
        cases hp
        refine ⟨⟨ht1, ht6, h1.th0, h1.th1, h1.fl, h1.tr, .inr (.inl ⟨hgv, .inl rfl⟩), fun _ => ⟨b, h.si.sw _ hk, Int.le_refl _, ?_, fun _ => ?_⟩, fun _ _ => ⟨?_, ?_, rfl⟩, fun e => by simp at e, fun e => by simp at e, fun e => (by rw [show (o.gv = true) from e] at hgv; cases hgv), fun _ => rfl, fun e => by simp at e, h1.e0⟩, hth, ?_, fun e => (by rw [show (o.gv = true) from e] at hgv; cases hgv), ?_⟩
        · show x % 65536 ≤ _
          omega
        · show R.s.ws[c.pools + o.ht - 1]? = some x
          rw [hpe]
          exact hx
        · show 1 ≤ x % 65536
          omega
        · show x % 65536 ≤ _
          omega
        · rw [hof, hgv]
          simp
        · show o.fl ≤ _
          omega
  · rw [if_neg p4]
    obtain ⟨l1, l2, l3, l4, l5⟩ := h1.ld p4
    by_cases p57 : o.pc = 5 ∨ o.pc = 7
    · rw [if_pos p57]
      obtain ⟨hat, tw1, tw2⟩ := h1.at_lk p57
      rw [hat] at hx
      obtain ⟨y, hy, y0, y1⟩ := h.si.lo (o.tw.toNat - 1) (by omega)
      rw [show c.links + (o.tw.toNat - 1) = c.links + o.tw.toNat - 1 by omega, hx] at hy
      obtain rfl : x = y := by simpa using hy
      have hst1 := h1.s1 p57
      have hseen : pup R.seen t (R.seen t) = R.seen := pup_same
      rcases p57 with p5 | p7
      · have hst : o.st c R.s x = { R.s with ws := R.s.ws, log := R.s.log ++ [⟨o.th, (o.at c : Int), 1, x, x, false⟩] } := by unfold PO.st; rw [if_pos (.inr p5)]
        have hop : o.op x = { o with bl := x, pc := 6 } := by unfold PO.op; rw [if_neg p4, if_pos p5]
        have hgv : o.gv = false := by rcases h1.pc with e | ⟨e, -⟩ | ⟨-, e⟩ <;> first | exact e | omega
        rw [hst, hop]
        have := h.own (o' := some { o with bl := x, pc := 6 }) (seen' := R.seen t) (steps' := R.steps t + 1) ht ho (h.si.logs (R.s.log ++ [⟨o.th, (o.at c : Int), 1, x, x, false⟩])) (fun _ => .inr rfl) (fun _ _ => rfl) (fun p hp => ?_) (fun e => (by rw [hgv] at e; cases e))
        · rw [hseen] at this
          exact this
        · cases hp
          obtain ⟨k1, k2, k3⟩ := h1.tk hgv p4
          refine ⟨⟨ht1, ht6, h1.th0, h1.th1, h1.fl, h1.tr, .inr (.inl ⟨hgv, .inr rfl⟩), fun _ => ⟨l1, l2, l3, l4, l5⟩, fun _ _ => ⟨k1, k2, k3⟩, fun _ => ⟨y0, y1, fun e => ?_⟩, fun e => by simp at e, fun e => (by rw [show (o.gv = true) from e] at hgv; cases hgv), fun e => by simp at e, fun _ => by rw [hst1]; rfl, h1.e0⟩, hth, hof, fun e => (by rw [show (o.gv = true) from e] at hgv; cases hgv), ?_⟩
          · have h5 := l5 e
            rw [hpe] at h5
            obtain ⟨q1, q2, q3⟩ := h.si.at_head hn hk h5
            cases hL : R.L (o.ht - 1) with
            | nil => rw [hL] at q1; simp [hd0] at q1; omega
            | cons z r =>
              have hz : z = o.tw := by rw [hL] at q1; simp [hd0] at q1; omega
              subst hz
              refine ⟨r, rfl, ?_⟩
              have h6 := h.si.link _ hk 0 o.tw (by rw [hL]; rfl)
              rw [hx, hL] at h6
              show x = hd0 r
              rw [hd0_tail o.tw r]
              simpa using h6
          · show o.fl ≤ _
            omega
      · have hst : o.st c R.s x = { R.s with ws := R.s.ws.set (c.links + o.tw.toNat - 1) (o.w % 65536), log := R.s.log ++ [⟨o.th, (o.at c : Int), 2, x, o.w % 65536, false⟩] } := by unfold PO.st; rw [if_neg (by omega), if_pos p7, hat]
        have hop : o.op x = { o with pc := 8 } := by unfold PO.op; rw [if_neg p4, if_neg (by omega), if_pos p7]
        have hgv : o.gv = true := by rcases h1.pc with e | ⟨-, e⟩ | ⟨e, -⟩ <;> first | exact e | omega
        have hm := hmine hgv
        have hmem := List.mem_of_head? hm
        obtain ⟨b, hb, -⟩ := h.mi t ht _ hmem
        rw [hst, hop]
        have := h.own (o' := some { o with pc := 8 }) (ws' := R.s.ws.set (c.links + o.tw.toNat - 1) (o.w % 65536)) (seen' := R.seen t) (steps' := R.steps t + 1) ht ho (h.si.relink (x := o.tw) (by rw [hb]; rfl) (by omega) l4 (R.s.log ++ [⟨o.th, (o.at c : Int), 2, x, o.w % 65536, false⟩])) (fun i => ?_) (fun k hk => ?_) (fun p hp => ?_) (fun _ => ⟨_, rfl, hgv, rfl⟩)
        · rw [hseen] at this
          exact this
        · by_cases e : c.links + o.tw.toNat - 1 = i
          · left
            intro u p hu hut hup hp8 ei
            obtain ⟨a1, a2, a3, a4, a5⟩ := h.op u p hu hup
            have hpg : p.gv = true := by rcases a1.pc with e | ⟨-, e⟩ | ⟨e, -⟩ <;> first | exact e | omega
            have hm2 := List.mem_of_head? (a4 hpg)
            have hp1 := a1.gw hpg
            refine hut (h.md u t o.tw hu ht ?_ hmem)
            rw [show o.tw = p.tw by omega]
            exact hm2
          · right
            rw [set_get_ne e]
        · rw [set_get_ne (plc_ne c hk (by omega)).2]
        · cases hp
          refine ⟨⟨ht1, ht6, h1.th0, h1.th1, h1.fl, h1.tr, .inr (.inr ⟨hgv, .inr rfl⟩), fun _ => ⟨l1, l2, l3, l4, fun e => ?_⟩, fun e => (by rw [show (o.gv = false) from e] at hgv; cases hgv), fun e => by simp at e, fun _ => ?_, h1.gw, fun e => by simp at e, fun _ => by rw [hst1]; rfl, h1.e0⟩, hth, hof, hmine, ?_⟩
          · show (R.s.ws.set _ _)[c.pools + o.ht - 1]? = _
            rw [hpe, set_get_ne (plc_ne c hk (by omega)).2, ← hpe]
            exact l5 e
          · show (R.s.ws.set _ _)[c.links + o.tw.toNat - 1]? = _
            exact set_get_me hx
          · show o.fl ≤ _
            omega
    · rw [if_neg p57]
      have hat : o.at c = c.pools + (o.ht - 1) := h1.at_ne (by omega)
      have hsw := (h.swaps hn ht ho (by rcases h1.pc with e | ⟨-, e⟩ | ⟨-, e⟩ <;> omega) hx).1
      rw [hat] at hx
      obtain ⟨a, b, x0⟩ := h.si.at_head hn hk hx
      by_cases hw : x = o.w
      · rw [if_pos hw]
        have hst : o.st c R.s x = { ws := R.s.ws.set (c.pools + (o.ht - 1)) o.nw, log := R.s.log ++ [⟨o.th, (o.at c : Int), 4, x, o.nw, true⟩], out := pup R.s.out o.tw (if o.gv then none else some false), gens := if o.gv then R.s.gens.set (o.tw.toNat - 1) ((R.s.gens[o.tw.toNat - 1]?).getD 0 + 1) else R.s.gens } := by
          unfold PO.st
          rw [if_neg (by omega), if_neg (by omega), if_pos hw, hat]
        rw [hst]
        have hseen := hsw.1 hw
        have hll : ∀ a : Acc, ((R.s.log ++ [a]).length : Int) = R.s.log.length + 1 := fun a => by simp
        have others : ∀ (L' : List Int), ∀ u p, u < 6 → u ≠ t → R.ops u = some p → POk c (R.s.ws.set (c.pools + (o.ht - 1)) o.nw) (pup R.L (o.ht - 1) L') (pup R.sw (o.ht - 1) (R.sw (o.ht - 1) + 1)) p (R.seen u) (R.steps u) := fun L' u p hu hut hup => by
          obtain ⟨a1, -⟩ := h.op u p hu hup
          have q1 := a1.ht1
          have q6 := a1.ht6
          refine a1.keep ?_ fun hp => ?_
          · by_cases e : p.ht - 1 = o.ht - 1
            · right
              rw [e, pup_me]
            · left
              rw [pup_ne e, pup_ne e]
              exact ⟨rfl, rfl, set_get_ne (by omega)⟩
          · have hpg : p.gv = true := by rcases a1.pc with e | ⟨-, e⟩ | ⟨e, -⟩ <;> first | exact e | omega
            have := a1.gw hpg
            exact set_get_ne (plc_ne c hk (by omega)).1
        cases hgv : o.gv with
        | true =>
          have hm := hmine hgv
          obtain ⟨r, hr⟩ : ∃ r, R.mine t = o.tw :: r := by
            cases hq : R.mine t with
            | nil => rw [hq] at hm; cases hm
            | cons z r => rw [hq] at hm; simp at hm; exact ⟨r, by rw [hm]⟩
          have hmem : o.tw ∈ R.mine t := by rw [hr]; exact List.mem_cons_self
          obtain ⟨bb, hb, -⟩ := h.mi t ht _ hmem
          obtain ⟨g1, g2, g3⟩ := h1.gw hgv
          have p8 : o.pc = 8 := by rcases h1.pc with e | ⟨e, -⟩ | ⟨-, e⟩ <;> first | omega | (rw [hgv] at e; cases e)
          have hnw : o.nw = o.tw + 65536 * (R.sw (o.ht - 1) + 1) := by unfold PO.nw; rw [if_pos hgv, l1, hseen]
          have hlk := h1.lk p8
          rw [← hw, a] at hlk
          have hsi := h.si.push hk (x := o.tw) g1 g2 (by rw [g3, show o.ht - 1 + 1 = o.ht by omega]) (by rw [hb]; rfl) hlk (R.s.log ++ [⟨o.th, (o.at c : Int), 4, x, o.nw, true⟩]) (R.s.gens.set (o.tw.toNat - 1) ((R.s.gens[o.tw.toNat - 1]?).getD 0 + 1)) (by rw [List.length_set]; exact h.si.gl)
          rw [← hnw] at hsi
          simp only [if_true]
          refine ⟨hsi, fun u p hu hup => ?_, fun u hu y hy => ?_, fun u v y hu hv hyu hyv => ?_, fun u hu => ?_, fun k hk' => ?_, fun i g hg => ?_⟩
          · by_cases e : u = t
            · subst e
              have hup' : pup R.ops u none u = some p := hup
              rw [pup_me] at hup'
              cases hup'
            · have hup' : pup R.ops t none u = some p := hup
              rw [pup_ne e] at hup'
              obtain ⟨-, a2, a3, a4, a5⟩ := h.op u p hu hup'
              refine ⟨?_, a2, a3, ?_, ?_⟩
              · show POk c _ _ _ p (R.seen u) (pup R.steps t (R.steps t + 1) u)
                rw [pup_ne e]
                exact others _ u p hu e hup'
              · show p.gv = true → (pup R.mine t (R.mine t).tail u).head? = _
                rw [pup_ne e]
                exact a4
              · have := hll ⟨o.th, (o.at c : Int), 4, x, o.nw, true⟩
                show p.fl ≤ ((R.s.log ++ [_]).length : Int)
                omega
          · have hy' : y ∈ pup R.mine t (R.mine t).tail u := hy
            have hyo : y ∈ R.mine u ∧ y ≠ o.tw := by
              by_cases e : u = t
              · subst e
                rw [pup_me, hr, List.tail_cons] at hy'
                have hnd := h.mn u hu
                rw [hr, List.nodup_cons] at hnd
                exact ⟨by rw [hr]; exact List.mem_cons_of_mem _ hy', fun e => hnd.1 (e ▸ hy')⟩
              · rw [pup_ne e] at hy'
                exact ⟨hy', fun e2 => e (h.md u t o.tw hu ht (e2 ▸ hy') hmem)⟩
            obtain ⟨b', q1, q2⟩ := h.mi u hu y hyo.1
            refine ⟨b', ?_, fun e2 => ?_⟩
            · show pup R.s.out o.tw none y = _
              rw [pup_ne hyo.2]
              exact q1
            · obtain ⟨p, q3, q4, q5⟩ := q2 e2
              by_cases e : u = t
              · subst e
                rw [ho] at q3
                cases q3
                exact absurd q5.symm hyo.2
              · exact ⟨p, by show pup R.ops t none u = _; rw [pup_ne e]; exact q3, q4, q5⟩
          · have hsub : ∀ u, u < 6 → ∀ y, y ∈ pup R.mine t (R.mine t).tail u → y ∈ R.mine u := fun u hu y hy => by
              by_cases e : u = t
              · subst e; rw [pup_me] at hy; exact List.mem_of_mem_tail hy
              · rw [pup_ne e] at hy; exact hy
            exact h.md u v y hu hv (hsub u hu y hyu) (hsub v hv y hyv)
          · show (pup R.mine t (R.mine t).tail u).Nodup
            by_cases e : u = t
            · subst e
              rw [pup_me]
              have hnd := h.mn u hu
              rw [hr, List.nodup_cons] at hnd
              rw [hr]
              exact hnd.2
            · rw [pup_ne e]
              exact h.mn u hu
          · have h3 := h.swl (o.ht - 1) hk
            have h4 := h.swl k hk'
            have := hll ⟨o.th, (o.at c : Int), 4, x, o.nw, true⟩
            show pup R.sw (o.ht - 1) (R.sw (o.ht - 1) + 1) k ≤ ((R.s.log ++ [_]).length : Int)
            by_cases e : k = o.ht - 1
            · subst e; rw [pup_me]; omega
            · rw [pup_ne e]; omega
          · have hg' : (R.s.gens.set (o.tw.toNat - 1) ((R.s.gens[o.tw.toNat - 1]?).getD 0 + 1))[i]? = some g := hg
            have := hll ⟨o.th, (o.at c : Int), 4, x, o.nw, true⟩
            show 0 ≤ g ∧ g ≤ ((R.s.log ++ [_]).length : Int)
            obtain ⟨g0, hg0⟩ : ∃ g0, R.s.gens[o.tw.toNat - 1]? = some g0 := ⟨_, List.getElem?_eq_getElem (by rw [h.si.gl]; omega)⟩
            have hb0 := h.gb _ _ hg0
            by_cases e : o.tw.toNat - 1 = i
            · subst e
              rw [set_get_me hg0, hg0] at hg'
              simp at hg'
              omega
            · rw [set_get_ne e] at hg'
              have := h.gb i g hg'
              omega
        | false =>
          have p6 : o.pc = 6 := by rcases h1.pc with e | ⟨-, e⟩ | ⟨e, -⟩ <;> first | omega | (rw [hgv] at e; cases e)
          obtain ⟨b1, b2, b3⟩ := h1.bl p6
          obtain ⟨r, hr, hbl⟩ := b3 hseen
          have hnw : o.nw = hd0 r + 65536 * (R.sw (o.ht - 1) + 1) := by unfold PO.nw; rw [if_neg (by rw [hgv]; decide), l1, hseen, hbl]
          have hsi := h.si.pop hk hr (R.s.log ++ [⟨o.th, (o.at c : Int), 4, x, o.nw, true⟩]) hn
          rw [← hnw] at hsi
          have hxm : o.tw ∈ R.L (o.ht - 1) := by rw [hr]; exact List.mem_cons_self
          have hno : ∀ u, u < 6 → o.tw ∉ R.mine u := fun u hu hm => by
            obtain ⟨b', q1, -⟩ := h.mi u hu _ hm
            exact ((h.si.out o.tw).1 (by rw [q1]; rfl)).2 _ hk hxm
          simp only [Bool.false_eq_true, if_false]
          rw [hr, List.tail_cons]
          refine ⟨hsi, fun u p hu hup => ?_, fun u hu y hy => ?_, fun u v y hu hv hyu hyv => ?_, fun u hu => ?_, fun k hk' => ?_, fun i g hg => ?_⟩
          · by_cases e : u = t
            · subst e
              have hup' : pup R.ops u none u = some p := hup
              rw [pup_me] at hup'
              cases hup'
            · have hup' : pup R.ops t none u = some p := hup
              rw [pup_ne e] at hup'
              obtain ⟨-, a2, a3, a4, a5⟩ := h.op u p hu hup'
              refine ⟨?_, a2, a3, ?_, ?_⟩
              · show POk c _ _ _ p (R.seen u) (pup R.steps t (R.steps t + 1) u)
                rw [pup_ne e]
                exact others _ u p hu e hup'
              · show p.gv = true → (pup R.mine t (R.mine t ++ [o.tw]) u).head? = _
                rw [pup_ne e]
                exact a4
              · have := hll ⟨o.th, (o.at c : Int), 4, x, o.nw, true⟩
                show p.fl ≤ ((R.s.log ++ [_]).length : Int)
                omega
          · have hy' : y ∈ pup R.mine t (R.mine t ++ [o.tw]) u := hy
            by_cases ey : y = o.tw
            · subst ey
              refine ⟨false, ?_, fun e => by cases e⟩
              show pup R.s.out o.tw (some false) o.tw = _
              rw [pup_me]
            · have hyo : y ∈ R.mine u := by
                by_cases e : u = t
                · subst e
                  rw [pup_me, List.mem_append, List.mem_singleton] at hy'
                  exact hy'.resolve_right ey
                · rw [pup_ne e] at hy'; exact hy'
              obtain ⟨b', q1, q2⟩ := h.mi u hu y hyo
              refine ⟨b', ?_, fun e2 => ?_⟩
              · show pup R.s.out o.tw (some false) y = _
                rw [pup_ne ey]
                exact q1
              · obtain ⟨p, q3, q4, q5⟩ := q2 e2
                by_cases e : u = t
                · subst e
                  rw [ho] at q3
                  cases q3
                  rw [hgv] at q4
                  cases q4
                · exact ⟨p, by show pup R.ops t none u = _; rw [pup_ne e]; exact q3, q4, q5⟩
          · have hsub : ∀ u, u < 6 → ∀ y, y ∈ pup R.mine t (R.mine t ++ [o.tw]) u → y ∈ R.mine u ∨ (u = t ∧ y = o.tw) := fun u hu y hy => by
              by_cases e : u = t
              · subst e
                rw [pup_me, List.mem_append, List.mem_singleton] at hy
                exact hy.imp id (fun h => ⟨rfl, h⟩)
              · rw [pup_ne e] at hy; exact .inl hy
            rcases hsub u hu y hyu with q1 | ⟨rfl, rfl⟩
            · rcases hsub v hv y hyv with q2 | ⟨rfl, rfl⟩
              · exact h.md u v y hu hv q1 q2
              · exact absurd q1 (hno u hu)
            · rcases hsub v hv _ hyv with q2 | ⟨rfl, -⟩
              · exact absurd q2 (hno v hv)
              · rfl
          · show (pup R.mine t (R.mine t ++ [o.tw]) u).Nodup
            by_cases e : u = t
            · subst e
              rw [pup_me, List.nodup_append]
              exact ⟨h.mn u hu, by simp, fun y hy z hz e => by simp at hz; subst hz; subst e; exact hno u hu hy⟩
            · rw [pup_ne e]
              exact h.mn u hu
          · have h3 := h.swl (o.ht - 1) hk
            have h4 := h.swl k hk'
            have := hll ⟨o.th, (o.at c : Int), 4, x, o.nw, true⟩
            show pup R.sw (o.ht - 1) (R.sw (o.ht - 1) + 1) k ≤ ((R.s.log ++ [_]).length : Int)
            by_cases e : k = o.ht - 1
            · subst e; rw [pup_me]; omega
            · rw [pup_ne e]; omega
          · have := hll ⟨o.th, (o.at c : Int), 4, x, o.nw, true⟩
            have h5 := h.gb i g hg
            show 0 ≤ g ∧ g ≤ ((R.s.log ++ [_]).length : Int)
            omega
      · rw [if_neg hw]
        have hst : o.st c R.s x = { R.s with ws := R.s.ws, log := R.s.log ++ [⟨o.th, (o.at c : Int), 4, x, x, false⟩] } := by
          unfold PO.st
          rw [if_neg (by omega), if_neg (by omega), if_neg hw]
        have hseen : pup R.seen t (R.seen t) = R.seen := pup_same
        rw [hst]
        have hop : o.op x = if o.gv then { o with pc := 4 } else { o with tw := 0, fl := o.fl + 1, pc := 4 } := by
          unfold PO.op
          rw [if_neg p4, if_neg (by omega), if_neg (by omega), if_neg hw]
          cases hgv : o.gv with
          | true => rfl
          | false =>
            simp only [Bool.false_eq_true, if_false]
            rw [if_neg (by have := h1.fl; have := h1.tr; omega)]
        rw [hop]
        have := h.own (o' := some (if o.gv then { o with pc := 4 } else { o with tw := 0, fl := o.fl + 1, pc := 4 })) (ws' := R.s.ws) (a := ⟨o.th, (o.at c : Int), 4, x, x, false⟩) (seen' := R.seen t) (steps' := R.steps t + 1) ht ho (h.si.logs _) (fun _ => .inr rfl) (fun _ _ => rfl) (fun p hp => ?_) (fun e => ⟨_, rfl, by rw [if_pos e]; exact e, by rw [if_pos e]⟩)
        · rw [hseen] at this
          exact this
        · rcases Bool.eq_false_or_eq_true o.gv with hgv | hgv
          · rw [if_pos hgv, Option.some.injEq] at hp
            subst hp
            exact ⟨⟨ht1, ht6, h1.th0, h1.th1, h1.fl, h1.tr, .inl rfl, fun e => absurd rfl e, fun _ e => absurd rfl e, fun e => by simp at e, fun e => by simp at e, h1.gw, fun e => by simp at e, fun e => by simp at e, h1.e0⟩, hth, hof, hmine, by show o.fl ≤ _; omega⟩
          · rw [if_neg (by rw [hgv]; decide), Option.some.injEq] at hp
            subst hp
            refine ⟨⟨ht1, ht6, h1.th0, h1.th1, by show 0 ≤ o.fl + 1; have := h1.fl; omega, h1.tr, .inl rfl, fun e => absurd rfl e, fun _ e => absurd rfl e, fun e => by simp at e, fun e => by simp at e, fun e => (by rw [show (o.gv = true) from e] at hgv; cases hgv), fun e => by simp at e, fun e => by simp at e, h1.e0⟩, hth, ?_, fun e => (by rw [show (o.gv = true) from e] at hgv; cases hgv), by show o.fl + 1 ≤ _; omega⟩
            rw [hof, hgv]
            simp
end
end Go.Lf
