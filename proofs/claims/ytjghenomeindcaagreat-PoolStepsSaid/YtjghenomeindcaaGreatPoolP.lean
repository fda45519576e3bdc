/- The pools of a store as plain data: what the operations do, and what stays true of them. No program is named here. -/
import Derived.Test.YtjghenomeindcaaGreatLayPlain
set_option linter.unusedVariables false
set_option linter.unusedSimpArgs false
namespace Go.Lf
def pup {α β : Type} [DecidableEq α] (f : α → β) (k : α) (v : β) (j : α) : β := if j = k then v else f j
section
variable {α β : Type} [DecidableEq α] {f : α → β} {k j : α} {v : β}
theorem pup_me : pup f k v k = v := if_pos rfl
theorem pup_ne (h : j ≠ k) : pup f k v j = f j := if_neg h
theorem pup_pup {u : β} : pup (pup f k v) k u = pup f k u := by
  funext j
  unfold pup
  split <;> rfl
theorem pup_same : pup f k (f k) = f := by
  funext j
  unfold pup
  split
  · rename_i h; rw [h]
  · rfl
end
theorem pup_range {α : Type} (f : Nat → α) (n i : Nat) (v : α) : ((List.range n).map f).set i v = (List.range n).map (pup f i v) := by
  apply List.ext_getElem?
  intro j
  rw [List.getElem?_set]
  simp only [List.getElem?_map, List.length_map, List.length_range]
  by_cases hj : j < n
  · rw [List.getElem?_range hj]
    by_cases h : i = j
    · subst h; simp [hj, pup]
    · rw [if_neg h]; simp [pup, Ne.symm h]
  · rw [List.getElem?_eq_none (l := List.range n) (by simp; omega)]
    simp
    omega
def hd0 (l : List Int) : Int := (l.head?).getD 0
/-- The state of the pools: words, accesses, the towers that are out (true: a give was begun), the generations. -/
structure PSt where
  ws : List Int
  log : List Acc
  out : Int → Option Bool
  gens : List Int
/-- An operation. -/
structure PO where
  gv : Bool
  th : Int
  ht : Nat
  tw : Int
  w : Int
  pc : Int
  bl : Int
  fl : Int
  tr : Int
  e : Int
/-- Where its next step makes its access. -/
def PO.at (c : Cfg) (o : PO) : Nat := if o.pc = 5 ∨ o.pc = 7 then c.links + o.tw.toNat - 1 else c.pools + o.ht - 1
def PO.nw (o : PO) : Int := (if o.gv then o.tw else o.bl) + 65536 * (o.w / 65536 + 1)
def PO.take (th : Int) (ht : Nat) (tr : Int) : PO := ⟨false, th, ht, 0, 0, 4, 0, 0, tr, 0⟩
def PO.give (th : Int) (ht : Nat) (tw : Int) : PO := ⟨true, th, ht, tw, 0, 4, 0, 0, 0, 0⟩
/-- A step, x being the word where it makes its access. -/
def PO.op (o : PO) (x : Int) : PO :=
  if o.pc = 4 then (if o.gv then { o with w := x, pc := 7 } else if x % 65536 = 0 then { o with w := x, tw := 0, pc := 0, e := 6 } else { o with w := x, tw := x % 65536, pc := 5 })
  else if o.pc = 5 then { o with bl := x, pc := 6 }
  else if o.pc = 7 then { o with pc := 8 }
  else if x = o.w then { o with pc := 0 }
  else if o.gv then { o with pc := 4 }
  else if o.fl + 1 = o.tr then { o with tw := 0, fl := o.fl + 1, pc := 0, e := 11 }
  else { o with tw := 0, fl := o.fl + 1, pc := 4 }
def PO.st (c : Cfg) (o : PO) (s : PSt) (x : Int) : PSt :=
  if o.pc = 4 ∨ o.pc = 5 then { s with log := s.log ++ [⟨o.th, (o.at c : Int), 1, x, x, false⟩] }
  else if o.pc = 7 then { s with ws := s.ws.set (o.at c) (o.w % 65536), log := s.log ++ [⟨o.th, (o.at c : Int), 2, x, o.w % 65536, false⟩] }
  else if x = o.w then
    { ws := s.ws.set (o.at c) o.nw, log := s.log ++ [⟨o.th, (o.at c : Int), 4, x, o.nw, true⟩], out := pup s.out o.tw (if o.gv then none else some false), gens := if o.gv then s.gens.set (o.tw.toNat - 1) ((s.gens[o.tw.toNat - 1]?).getD 0 + 1) else s.gens }
  else { s with log := s.log ++ [⟨o.th, (o.at c : Int), 4, x, x, false⟩] }
/-- What is true of the pools: L h are the towers on the stack of the height h + 1, the top first; sw h the operations that succeeded there. -/
structure SInv (c : Cfg) (s : PSt) (L : Nat → List Int) (sw : Nat → Int) : Prop where
  wl : s.ws.length = c.words
  gl : s.gens.length = c.nT
  head : ∀ h, h < 6 → s.ws[c.pools + h]? = some (hd0 (L h) + 65536 * sw h)
  link : ∀ h, h < 6 → ∀ (i : Nat) (x : Int), (L h)[i]? = some x → s.ws[c.links + x.toNat - 1]? = some (((L h)[i + 1]?).getD 0)
  lo : ∀ i, i < c.nT → ∃ y, s.ws[c.links + i]? = some y ∧ 0 ≤ y ∧ y ≤ c.nT
  rng : ∀ h, h < 6 → ∀ x ∈ L h, 1 ≤ x ∧ x ≤ c.nT ∧ c.hs[x.toNat - 1]? = some (h + 1)
  nd : ∀ h, h < 6 → (L h).Nodup
  out : ∀ x, (s.out x).isSome = true ↔ (1 ≤ x ∧ x ≤ c.nT) ∧ ∀ h, h < 6 → x ∉ L h
  sw : ∀ h, h < 6 → 0 ≤ sw h
/-- What is true of an operation. -/
structure POk (c : Cfg) (ws : List Int) (L : Nat → List Int) (sw : Nat → Int) (o : PO) (seen steps : Int) : Prop where
  ht1 : 1 ≤ o.ht
  ht6 : o.ht ≤ 6
  th0 : 0 ≤ o.th
  th1 : o.th < 64
  fl : 0 ≤ o.fl
  tr : o.tr = 0
  pc : o.pc = 4 ∨ (o.gv = false ∧ (o.pc = 5 ∨ o.pc = 6)) ∨ (o.gv = true ∧ (o.pc = 7 ∨ o.pc = 8))
  ld : o.pc ≠ 4 → o.w / 65536 = seen ∧ 0 ≤ seen ∧ seen ≤ sw (o.ht - 1) ∧ o.w % 65536 ≤ c.nT ∧ (seen = sw (o.ht - 1) → ws[c.pools + o.ht - 1]? = some o.w)
  tk : o.gv = false → o.pc ≠ 4 → 1 ≤ o.tw ∧ o.tw ≤ c.nT ∧ o.tw = o.w % 65536
  bl : o.pc = 6 → 0 ≤ o.bl ∧ o.bl ≤ c.nT ∧ (seen = sw (o.ht - 1) → ∃ r, L (o.ht - 1) = o.tw :: r ∧ o.bl = hd0 r)
  lk : o.pc = 8 → ws[c.links + o.tw.toNat - 1]? = some (o.w % 65536)
  gw : o.gv = true → 1 ≤ o.tw ∧ o.tw ≤ c.nT ∧ c.hs[o.tw.toNat - 1]? = some o.ht
  s1 : o.pc = 5 ∨ o.pc = 7 → steps = 1
  s2 : o.pc = 6 ∨ o.pc = 8 → steps = 2
  e0 : o.e = 0
theorem plc_ne (c : Cfg) {h x : Nat} (hh : h < 6) (hx : 1 ≤ x) : c.pools + h ≠ c.links + x - 1 ∧ c.links + x - 1 ≠ c.pools + h := by
  have := c.le1
  omega
theorem set_get_ne {α : Type} {l : List α} {i j : Nat} {v : α} (h : i ≠ j) : (l.set i v)[j]? = l[j]? := List.getElem?_set_ne h
theorem set_get_me {α : Type} {l : List α} {i : Nat} {v x : α} (h : l[i]? = some x) : (l.set i v)[i]? = some v := by
  rw [List.getElem?_set_self (List.getElem?_eq_some_iff.1 h).1]
section
variable {c : Cfg} {s : PSt} {ws ws' : List Int} {L L' : Nat → List Int} {sw sw' : Nat → Int} {o : PO} {seen steps : Int}
/-- An operation stays what it is where others turn. -/
theorem POk.keep (h : POk c ws L sw o seen steps) (h1 : (sw' (o.ht - 1) = sw (o.ht - 1) ∧ L' (o.ht - 1) = L (o.ht - 1) ∧ ws'[c.pools + o.ht - 1]? = ws[c.pools + o.ht - 1]?) ∨ sw' (o.ht - 1) = sw (o.ht - 1) + 1)
    (h2 : o.pc = 8 → ws'[c.links + o.tw.toNat - 1]? = ws[c.links + o.tw.toNat - 1]?) : POk c ws' L' sw' o seen steps := by
  refine ⟨h.ht1, h.ht6, h.th0, h.th1, h.fl, h.tr, h.pc, fun hp => ?_, h.tk, fun hp => ?_, fun hp => (h2 hp).trans (h.lk hp), h.gw, h.s1, h.s2, h.e0⟩
  · obtain ⟨a1, a2, a3, a4, a5⟩ := h.ld hp
    rcases h1 with ⟨e1, e2, e3⟩ | e1
    · exact ⟨a1, a2, by rw [e1]; exact a3, a4, fun e => by rw [e3]; exact a5 (by rw [← e1]; exact e)⟩
    · exact ⟨a1, a2, by omega, a4, fun e => by omega⟩
  · obtain ⟨b1, b2, b3⟩ := h.bl hp
    obtain ⟨a1, a2, a3, a4, a5⟩ := h.ld (by omega)
    rcases h1 with ⟨e1, e2, e3⟩ | e1
    · exact ⟨b1, b2, fun e => by rw [e2]; exact b3 (by rw [← e1]; exact e)⟩
    · exact ⟨b1, b2, fun e => by omega⟩
theorem SInv.hdle (h : SInv c s L sw) {k : Nat} (hk : k < 6) : 0 ≤ hd0 (L k) ∧ hd0 (L k) ≤ c.nT := by
  cases hl : L k with
  | nil => exact ⟨by simp [hd0], by simp [hd0]⟩
  | cons x r =>
    have := h.rng k hk x (by rw [hl]; exact List.mem_cons_self)
    simp only [hd0, List.head?_cons, Option.getD_some]
    omega
theorem hd0_tail (x : Int) (r : List Int) : hd0 r = (((x :: r)[1]?)).getD 0 := by
  cases r <;> rfl
/-- The log grows. -/
theorem SInv.logs (h : SInv c s L sw) (l : List Acc) : SInv c { s with log := l } L sw := ⟨h.wl, h.gl, h.head, h.link, h.lo, h.rng, h.nd, h.out, h.sw⟩
/-- The top of a stack is taken. -/
theorem SInv.pop (h : SInv c s L sw) {k : Nat} (hk : k < 6) {x : Int} {r : List Int} (hl : L k = x :: r) (l : List Acc) (hn : c.nT ≤ 1024) :
    SInv c { s with ws := s.ws.set (c.pools + k) (hd0 r + 65536 * (sw k + 1)), log := l, out := pup s.out x (some false) } (pup L k r) (pup sw k (sw k + 1)) := by
  have hx := h.rng k hk x (by rw [hl]; exact List.mem_cons_self)
  have hnd := h.nd k hk
  rw [hl, List.nodup_cons] at hnd
  have hne : ∀ y : Nat, 1 ≤ y → c.pools + k ≠ c.links + y - 1 := fun y hy => (plc_ne c hk hy).1
  refine ⟨by simpa using h.wl, h.gl, fun j hj => ?_, fun j hj i y hy => ?_, fun i hi => ?_, fun j hj y hy => ?_, fun j hj => ?_, fun y => ?_, fun j hj => ?_⟩
  · show (s.ws.set (c.pools + k) _)[c.pools + j]? = _
    by_cases e : j = k
    · subst e
      rw [set_get_me (h.head j hj), pup_me, pup_me]
    · rw [set_get_ne (by omega), pup_ne e, pup_ne e]
      exact h.head j hj
  · show (s.ws.set (c.pools + k) _)[c.links + y.toNat - 1]? = _
    by_cases e : j = k
    · subst e
      rw [pup_me] at hy ⊢
      have hm : y ∈ L j := by rw [hl]; exact List.mem_cons_of_mem _ (List.mem_of_getElem? hy)
      have hy1 := h.rng j hj y hm
      rw [set_get_ne (hne _ (by omega))]
      have := h.link j hj (i + 1) y (by rw [hl, List.getElem?_cons_succ]; exact hy)
      rw [hl, List.getElem?_cons_succ] at this
      exact this
    · rw [pup_ne e] at hy ⊢
      have hy1 := h.rng j hj y (List.mem_of_getElem? hy)
      rw [set_get_ne (hne _ (by omega))]
      exact h.link j hj i y hy
  · obtain ⟨y, hy, hy0, hy1⟩ := h.lo i hi
    refine ⟨y, ?_, hy0, hy1⟩
    show (s.ws.set (c.pools + k) _)[c.links + i]? = _
    rw [set_get_ne (by have := hne (i + 1) (by omega); omega)]
    exact hy
  · by_cases e : j = k
    · subst e
      rw [pup_me] at hy
      exact h.rng j hj y (by rw [hl]; exact List.mem_cons_of_mem _ hy)
    · rw [pup_ne e] at hy
      exact h.rng j hj y hy
  · by_cases e : j = k
    · subst e; rw [pup_me]; exact hnd.2
    · rw [pup_ne e]; exact h.nd j hj
  · show ((pup s.out x (some false)) y).isSome = true ↔ _
    by_cases e : y = x
    · subst e
      rw [pup_me]
      refine ⟨fun _ => ⟨⟨hx.1, hx.2.1⟩, fun j hj => ?_⟩, fun _ => rfl⟩
      by_cases ej : j = k
      · subst ej; rw [pup_me]; exact hnd.1
      · rw [pup_ne ej]
        intro hm
        have h1 := (h.rng j hj y hm).2.2
        rw [hx.2.2] at h1
        simp at h1
        omega
    · rw [pup_ne e, h.out y]
      refine and_congr_right fun _ => forall_congr' fun j => imp_congr_right fun hj => not_congr ?_
      by_cases ej : j = k
      · subst ej; rw [pup_me, hl, List.mem_cons]; exact ⟨fun h => h.resolve_left e, .inr⟩
      · rw [pup_ne ej]
  · by_cases e : j = k
    · subst e; rw [pup_me]; have := h.sw j hj; omega
    · rw [pup_ne e]; exact h.sw j hj
/-- A tower is given back. -/
theorem SInv.push (h : SInv c s L sw) {k : Nat} (hk : k < 6) {x : Int} (hx1 : 1 ≤ x) (hx2 : x ≤ c.nT) (hh : c.hs[x.toNat - 1]? = some (k + 1)) (ho : (s.out x).isSome = true) (hlk : s.ws[c.links + x.toNat - 1]? = some (hd0 (L k))) (l : List Acc) (g : List Int) (hg : g.length = c.nT) :
    SInv c { ws := s.ws.set (c.pools + k) (x + 65536 * (sw k + 1)), log := l, out := pup s.out x none, gens := g } (pup L k (x :: L k)) (pup sw k (sw k + 1)) := by
  have hout := ((h.out x).1 ho).2
  have hne : ∀ y : Nat, 1 ≤ y → c.pools + k ≠ c.links + y - 1 := fun y hy => (plc_ne c hk hy).1
  refine ⟨by simpa using h.wl, hg, fun j hj => ?_, fun j hj i y hy => ?_, fun i hi => ?_, fun j hj y hy => ?_, fun j hj => ?_, fun y => ?_, fun j hj => ?_⟩
  · show (s.ws.set (c.pools + k) _)[c.pools + j]? = _
    by_cases e : j = k
    · subst e
      rw [set_get_me (h.head j hj), pup_me, pup_me]
      rfl
    · rw [set_get_ne (by omega), pup_ne e, pup_ne e]
      exact h.head j hj
  · show (s.ws.set (c.pools + k) _)[c.links + y.toNat - 1]? = _
    by_cases e : j = k
    · subst e
      rw [pup_me] at hy ⊢
      cases i with
      | zero =>
        simp only [List.getElem?_cons_zero, Option.some.injEq] at hy
        subst hy
        rw [set_get_ne (hne _ (by omega)), hlk]
        cases hL : L j <;> simp [hd0]
      | succ i =>
        rw [List.getElem?_cons_succ] at hy ⊢
        have hy1 := h.rng j hj y (List.mem_of_getElem? hy)
        rw [set_get_ne (hne _ (by omega))]
        exact h.link j hj i y hy
    · rw [pup_ne e] at hy ⊢
      have hy1 := h.rng j hj y (List.mem_of_getElem? hy)
      rw [set_get_ne (hne _ (by omega))]
      exact h.link j hj i y hy
  · obtain ⟨y, hy, hy0, hy1⟩ := h.lo i hi
    refine ⟨y, ?_, hy0, hy1⟩
    show (s.ws.set (c.pools + k) _)[c.links + i]? = _
    rw [set_get_ne (by have := hne (i + 1) (by omega); omega)]
    exact hy
  · by_cases e : j = k
    · subst e
      rw [pup_me, List.mem_cons] at hy
      rcases hy with rfl | hy
      · exact ⟨hx1, hx2, hh⟩
      · exact h.rng j hj y hy
    · rw [pup_ne e] at hy
      exact h.rng j hj y hy
  · by_cases e : j = k
    · subst e; rw [pup_me, List.nodup_cons]; exact ⟨hout j hj, h.nd j hj⟩
    · rw [pup_ne e]; exact h.nd j hj
  · show ((pup s.out x none) y).isSome = true ↔ _
    by_cases e : y = x
    · subst e
      rw [pup_me]
      refine ⟨fun h => (by cases h), fun h => absurd ?_ (h.2 k hk)⟩
      rw [pup_me]
      exact List.mem_cons_self
    · rw [pup_ne e, h.out y]
      refine and_congr_right fun _ => forall_congr' fun j => imp_congr_right fun hj => not_congr ?_
      by_cases ej : j = k
      · subst ej; rw [pup_me, List.mem_cons]; exact ⟨.inr, fun h => h.resolve_left e⟩
      · rw [pup_ne ej]
  · by_cases e : j = k
    · subst e; rw [pup_me]; have := h.sw j hj; omega
    · rw [pup_ne e]; exact h.sw j hj
/-- The link of a tower that is out is stored. -/
theorem SInv.relink (h : SInv c s L sw) {x v : Int} (ho : (s.out x).isSome = true) (v0 : 0 ≤ v) (v1 : v ≤ c.nT) (l : List Acc) : SInv c { s with ws := s.ws.set (c.links + x.toNat - 1) v, log := l } L sw := by
  obtain ⟨⟨hx1, hx2⟩, hout⟩ := (h.out x).1 ho
  refine ⟨by simpa using h.wl, h.gl, fun j hj => ?_, fun j hj i y hy => ?_, fun i hi => ?_, h.rng, h.nd, h.out, h.sw⟩
  · show (s.ws.set _ _)[c.pools + j]? = _
    rw [set_get_ne (plc_ne c hj (by omega)).2]
    exact h.head j hj
  · show (s.ws.set _ _)[c.links + y.toNat - 1]? = _
    have hm := List.mem_of_getElem? hy
    have hy1 := h.rng j hj y hm
    rw [set_get_ne (by intro e; exact hout j hj (by rw [show x = y by omega]; exact hm))]
    exact h.link j hj i y hy
  · obtain ⟨y, hy, hy0, hy1⟩ := h.lo i hi
    by_cases e : c.links + x.toNat - 1 = c.links + i
    · refine ⟨v, ?_, v0, v1⟩
      show (s.ws.set _ _)[c.links + i]? = _
      rw [e]
      exact set_get_me hy
    · refine ⟨y, ?_, hy0, hy1⟩
      show (s.ws.set _ _)[c.links + i]? = _
      rw [set_get_ne e]
      exact hy
/-- A give is begun. -/
theorem SInv.mark (h : SInv c s L sw) {x : Int} (ho : (s.out x).isSome = true) (b : Bool) : SInv c { s with out := pup s.out x (some b) } L sw := by
  refine ⟨h.wl, h.gl, h.head, h.link, h.lo, h.rng, h.nd, fun y => ?_, h.sw⟩
  show ((pup s.out x (some b)) y).isSome = true ↔ _
  by_cases e : y = x
  · subst e; rw [pup_me, ← h.out y]; exact ⟨fun _ => ho, fun _ => rfl⟩
  · rw [pup_ne e]; exact h.out y
end
end Go.Lf
