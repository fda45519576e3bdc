/- gate: the run of six threads as a machine of its own (plain), and what holds of it. -/
import Derived.Test.YtldjlcdccnnogaaGreatBktPlain
import Derived.Test.YtldjlcdccnnogaaGreatBase
set_option linter.unusedVariables false
set_option linter.unusedSimpArgs false
namespace Go.Lf

/-- Where a thread is: outside; entering, with the address of its count once chosen; in a section; waiting. -/
inductive GP where
  | idle
  | ent (c : Option Nat)
  | inn (c : Nat)
  | wt (st side : Nat) (left : List Nat)
structure GA where
  p : GP
  val : Nat
  sec : Int
  set : Nat
  must : List Int
structure GS where
  ws : List Int
  th : List GA
def wat (ws : List Int) (a : Nat) : Int := (ws[a]?).getD 0
def GP.isIn : GP → Bool
  | .inn _ => true
  | _ => false
def GP.isWt : GP → Bool
  | .wt .. => true
  | _ => false
def GS.enter (n : Nat) (s : GS) (t : Nat) (x : GA) : GS :=
  match x.p with
  | .ent none => ⟨s.ws, s.th.set t { x with p := .ent (some (4 * (x.val % n) + 1 + (wat s.ws (4 * (x.val % n))).toNat % 2)) }⟩
  | .ent (some c) => ⟨s.ws.set c (wat s.ws c + 1), s.th.set t { x with p := .inn c, sec := x.sec + 1 }⟩
  | _ => s
def GS.wait (s : GS) (t : Nat) (x : GA) : GS :=
  match x.p with
  | .wt 0 side (b :: rest) => if wat s.ws (4 * b + 3) = 0 then ⟨s.ws.set (4 * b + 3) (t + 1), s.th.set t { x with p := .wt 1 side (b :: rest) }⟩ else s
  | .wt 1 _ (b :: rest) => ⟨s.ws, s.th.set t { x with p := .wt 2 (wat s.ws (4 * b)).toNat (b :: rest) }⟩
  | .wt 2 side (b :: rest) => if wat s.ws (4 * b + 1 + (side + 1) % 2) = 0 then ⟨s.ws, s.th.set t { x with p := .wt 3 side (b :: rest) }⟩ else s
  | .wt 3 side (b :: rest) => ⟨s.ws.set (4 * b) (1 - (side % 2 : Nat)), s.th.set t { x with p := .wt 4 side (b :: rest) }⟩
  | .wt 4 side (b :: rest) => if wat s.ws (4 * b + 1 + side % 2) = 0 then ⟨s.ws, s.th.set t { x with p := .wt 5 side (b :: rest) }⟩ else s
  | .wt 5 side (b :: rest) => ⟨s.ws.set (4 * b + 3) 0, s.th.set t { x with p := if rest = [] then .idle else .wt 0 side rest }⟩
  | _ => s
/-- What a wait has to wait for: the sections of the threads below k. -/
def gList (th : List GA) (set k : Nat) : List Int := (List.range 6).map fun i => if i < k then (match th[i]? with | some z => if z.p.isIn = true ∧ set.testBit z.val = true then z.sec else 0 | none => 0) else 0
def GS.act (n : Nat) (s : GS) (t : Nat) (what : Int) (v set : Nat) : GS :=
  match s.th[t]? with
  | none => s
  | some x =>
    match x.p with
    | .ent _ => s.enter n t x
    | .wt .. => s.wait t x
    | .inn c => if 1 < what % 4 then s else ⟨s.ws.set c (wat s.ws c - 1), s.th.set t { x with p := .idle }⟩
    | .idle => if what % 4 < 2 then GS.enter n ⟨s.ws, s.th.set t { x with p := .ent none, val := v }⟩ t { x with p := .ent none, val := v }
      else GS.wait ⟨s.ws, s.th.set t { x with p := .wt 0 0 (bkts set n), set := set, must := gList s.th set 6 }⟩ t { x with p := .wt 0 0 (bkts set n), set := set, must := gList s.th set 6 }

/-- Whether a section is counted at a. -/
def GP.isAt : GP → Nat → Bool
  | .inn c, a => c == a
  | _, _ => false
/-- Whether a wait has the latch of bucket b. -/
def GP.holds : GP → Nat → Bool
  | .wt st _ (b' :: _), b => decide (1 ≤ st) && (b' == b)
  | _, _ => false
/-- How many threads are in sections that are counted at a. -/
def cntIn (a : Nat) : List GA → Int
  | [] => 0
  | x :: l => (if x.p.isAt a = true then 1 else 0) + cntIn a l
theorem cntIn_set (a : Nat) {th : List GA} {t : Nat} {x : GA} (x' : GA) (hx : th[t]? = some x) : cntIn a (th.set t x') = cntIn a th - (if x.p.isAt a = true then 1 else 0) + (if x'.p.isAt a = true then 1 else 0) := by
  induction th generalizing t with
  | nil => simp at hx
  | cons y l ih =>
    cases t with
    | zero =>
      simp only [List.getElem?_cons_zero, Option.some.injEq] at hx
      subst hx
      simp only [List.set_cons_zero, cntIn]
      omega
    | succ t =>
      have := ih (t := t) (by simpa using hx)
      simp only [List.set_cons_succ, cntIn]
      omega
theorem cntIn_bound (a : Nat) (th : List GA) : 0 ≤ cntIn a th ∧ cntIn a th ≤ th.length := by
  induction th with
  | nil => simp [cntIn]
  | cons y l ih => simp only [cntIn, List.length_cons]; split <;> omega
theorem cntIn_pos {a : Nat} {th : List GA} {t : Nat} {x : GA} (hx : th[t]? = some x) (ha : x.p.isAt a = true) : 1 ≤ cntIn a th := by
  induction th generalizing t with
  | nil => simp at hx
  | cons y l ih =>
    cases t with
    | zero =>
      simp only [List.getElem?_cons_zero, Option.some.injEq] at hx
      subst hx
      have := (cntIn_bound a l).1
      simp only [cntIn, if_pos ha]; omega
    | succ t =>
      have := ih (t := t) (by simpa using hx)
      simp only [cntIn]; split <;> omega
theorem cntIn_zero {a : Nat} {th : List GA} (h : ∀ (t : Nat) (x : GA), th[t]? = some x → x.p.isAt a = false) : cntIn a th = 0 := by
  induction th with
  | nil => rfl
  | cons y l ih =>
    have h0 := h 0 y rfl
    have := ih (fun t x hx => h (t + 1) x (by simpa using hx))
    simp only [cntIn, h0, this]; rfl
theorem wat_of {ws : List Int} {a : Nat} {v : Int} (h : ws[a]? = some v) : wat ws a = v := by rw [wat, h]; rfl
theorem set_far {ws : List Int} {a b : Nat} (v : Int) (h : a ≠ b) : (ws.set a v)[b]? = ws[b]? := by rw [List.getElem?_set, if_neg h]
theorem set_near {ws : List Int} {a : Nat} (v : Int) {u : Int} (h : ws[a]? = some u) : (ws.set a v)[a]? = some v := put_self h v

/-! The parts of what holds. -/
def GGate (n : Nat) (ws : List Int) : Prop := ∀ b, b < n → ∃ g : Nat, g < 2 ∧ ws[4 * b]? = some (g : Int)
def GCnt (n : Nat) (ws : List Int) (th : List GA) : Prop := ∀ b, b < n → ws[4 * b + 1]? = some (cntIn (4 * b + 1) th) ∧ ws[4 * b + 2]? = some (cntIn (4 * b + 2) th)
def GLat (n : Nat) (ws : List Int) (th : List GA) : Prop := ∀ b, b < n → (ws[4 * b + 3]? = some 0 ∧ ∀ (t : Nat) (x : GA), th[t]? = some x → x.p.holds b = false) ∨ ∃ (t : Nat) (x : GA), th[t]? = some x ∧ x.p.holds b = true ∧ ws[4 * b + 3]? = some ((t : Int) + 1) ∧ ∀ (u : Nat) (y : GA), th[u]? = some y → y.p.holds b = true → u = t
/-- Of a wait: what it has to wait for is ahead of it. -/
def GAhead (n : Nat) (th : List GA) (must : List Int) (st side : Nat) (left : List Nat) : Prop :=
  ∀ (j : Nat) (z : GA) (m : Int), th[j]? = some z → must[j]? = some m → m ≤ z.sec ∧ (0 < m → ∀ c, z.p = .inn c → z.sec = m → z.val % n ∈ left ∧ ∀ r, left = (z.val % n) :: r → (3 ≤ st → c = 4 * (z.val % n) + 1 + side) ∧ st ≠ 5)
structure GTok (n : Nat) (th : List GA) (x : GA) (K : Int) : Prop where
  v : x.val < 64
  s0 : 0 ≤ x.sec
  s1 : x.sec ≤ K
  st : x.set < 18446744073709551616
  ent : ∀ c, x.p = .ent (some c) → c = 4 * (x.val % n) + 1 ∨ c = 4 * (x.val % n) + 2
  inn : ∀ c, x.p = .inn c → (c = 4 * (x.val % n) + 1 ∨ c = 4 * (x.val % n) + 2) ∧ 1 ≤ x.sec
  wt : ∀ st side left, x.p = .wt st side left → left ≠ [] ∧ st ≤ 5 ∧ side < 2 ∧ (∀ b ∈ left, b < n) ∧ x.must.length = 6 ∧ left.length ≤ n ∧ GAhead n th x.must st side left
structure GInv (n : Nat) (s : GS) (K : Int) : Prop where
  n0 : 1 ≤ n
  lt : s.th.length = 6
  lw : s.ws.length = 4 * n
  gate : GGate n s.ws
  cnt : GCnt n s.ws s.th
  lat : GLat n s.ws s.th
  thr : ∀ (t : Nat) (x : GA), s.th[t]? = some x → GTok n s.th x K

section
variable {n : Nat} {ws : List Int} {th : List GA} {t : Nat} {x x' : GA} {K K' : Int}
theorem GGate.far (h : GGate n ws) {a : Nat} (v : Int) (ha : a % 4 ≠ 0) : GGate n (ws.set a v) := fun b hb => by
  obtain ⟨g, h1, h2⟩ := h b hb
  exact ⟨g, h1, by rw [set_far v (by omega)]; exact h2⟩
theorem GGate.near (h : GGate n ws) {a : Nat} (g : Nat) (hg : g < 2) : GGate n (ws.set (4 * a) g) := fun b hb => by
  obtain ⟨g', h1, h2⟩ := h b hb
  by_cases e : a = b
  · subst e; exact ⟨g, hg, set_near _ h2⟩
  · exact ⟨g', h1, by rw [set_far _ (by omega)]; exact h2⟩
theorem GCnt.same (h : GCnt n ws th) (hx : th[t]? = some x) (hi : ∀ a, x'.p.isAt a = x.p.isAt a) : GCnt n ws (th.set t x') := fun b hb => by
  obtain ⟨h1, h2⟩ := h b hb
  rw [cntIn_set _ x' hx, cntIn_set _ x' hx, hi, hi, h1, h2]
  exact ⟨congrArg some (by omega), congrArg some (by omega)⟩
theorem GCnt.far (h : GCnt n ws th) {a : Nat} (v : Int) (ha : a % 4 = 0 ∨ a % 4 = 3) : GCnt n (ws.set a v) th := fun b hb => by
  obtain ⟨h1, h2⟩ := h b hb
  rw [set_far v (by omega), set_far v (by omega)]
  exact ⟨h1, h2⟩
theorem GCnt.turn (h : GCnt n ws th) (hx : th[t]? = some x) (c : Nat) (d : Int) (hd : ∀ a, (if x'.p.isAt a = true then (1 : Int) else 0) - (if x.p.isAt a = true then 1 else 0) = if a = c then d else 0) : GCnt n (ws.set c (wat ws c + d)) (th.set t x') := fun b hb => by
  obtain ⟨h1, h2⟩ := h b hb
  have e1 := hd (4 * b + 1)
  have e2 := hd (4 * b + 2)
  rw [cntIn_set _ x' hx, cntIn_set _ x' hx]
  constructor
  · by_cases e : c = 4 * b + 1
    · subst e
      have e1 := e1.trans (if_pos rfl)
      rw [set_near _ h1, wat_of h1]
      exact congrArg some (by omega)
    · have e1 := e1.trans (if_neg (fun h => e h.symm))
      rw [set_far _ e, h1]
      exact congrArg some (by omega)
  · by_cases e : c = 4 * b + 2
    · subst e
      have e2 := e2.trans (if_pos rfl)
      rw [set_near _ h2, wat_of h2]
      exact congrArg some (by omega)
    · have e2 := e2.trans (if_neg (fun h => e h.symm))
      rw [set_far _ e, h2]
      exact congrArg some (by omega)
theorem GLat.far (h : GLat n ws th) {a : Nat} (v : Int) (ha : a % 4 ≠ 3) : GLat n (ws.set a v) th := fun b hb => by
  rw [set_far v (by omega)]; exact h b hb
theorem GLat.same (h : GLat n ws th) (hx : th[t]? = some x) (hh : ∀ b, x'.p.holds b = x.p.holds b) : GLat n ws (th.set t x') := fun b hb => by
  rcases h b hb with ⟨h1, h2⟩ | ⟨u, y, h1, h2, h3, h4⟩
  · refine .inl ⟨h1, fun i z hz => ?_⟩
    rcases set_cases hz with ⟨e1, e2⟩ | ⟨e1, e2⟩
    · subst e2; rw [hh]; exact h2 t x hx
    · exact h2 i z e2
  · by_cases e : u = t
    · subst e
      obtain rfl := Option.some.inj (hx.symm.trans h1)
      refine .inr ⟨u, x', put_self hx _, by rw [hh]; exact h2, h3, fun i z hz hhz => ?_⟩
      rcases set_cases hz with ⟨e1, e2⟩ | ⟨e1, e2⟩
      · exact e1
      · exact h4 i z e2 hhz
    · refine .inr ⟨u, y, by rw [List.getElem?_set, if_neg (fun h => e h.symm)]; exact h1, h2, h3, fun i z hz hhz => ?_⟩
      rcases set_cases hz with ⟨e1, e2⟩ | ⟨e1, e2⟩
      · subst e2; rw [hh] at hhz; exact e1.trans (h4 t x hx hhz)
      · exact h4 i z e2 hhz
theorem GLat.lock (h : GLat n ws th) (hx : th[t]? = some x) {b : Nat} (hb : b < n) (h0 : wat ws (4 * b + 3) = 0) (hn : ∀ b, x.p.holds b = false) (hp : ∀ b', x'.p.holds b' = (b == b')) : GLat n (ws.set (4 * b + 3) ((t : Int) + 1)) (th.set t x') := fun b' hb' => by
  by_cases e : b = b'
  · subst e
    have ⟨h1, h2⟩ : ws[4 * b + 3]? = some 0 ∧ ∀ (t : Nat) (x : GA), th[t]? = some x → x.p.holds b = false := by
      rcases h b hb with h | ⟨u, y, -, -, h3, -⟩
      · exact h
      · rw [wat_of h3] at h0; omega
    refine .inr ⟨t, x', put_self hx _, by rw [hp]; simp, set_near _ h1, fun i z hz hhz => ?_⟩
    rcases set_cases hz with ⟨e1, e2⟩ | ⟨e1, e2⟩
    · exact e1
    · rw [h2 i z e2] at hhz; cases hhz
  · have hne : (b == b') = false := beq_eq_false_iff_ne.2 e
    rcases h b' hb' with ⟨h1, h2⟩ | ⟨u, y, h1, h2, h3, h4⟩
    · refine .inl ⟨by rw [set_far _ (by omega)]; exact h1, fun i z hz => ?_⟩
      rcases set_cases hz with ⟨e1, e2⟩ | ⟨e1, e2⟩
      · subst e2; rw [hp, hne]
      · exact h2 i z e2
    · have hut : u ≠ t := fun e => by subst e; rw [← Option.some.inj (hx.symm.trans h1), hn] at h2; cases h2
      refine .inr ⟨u, y, by rw [List.getElem?_set, if_neg (fun h => hut h.symm)]; exact h1, h2, by rw [set_far _ (by omega)]; exact h3, fun i z hz hhz => ?_⟩
      rcases set_cases hz with ⟨e1, e2⟩ | ⟨e1, e2⟩
      · subst e2; rw [hp, hne] at hhz; cases hhz
      · exact h4 i z e2 hhz
theorem GLat.has (h : GLat n ws th) (hx : th[t]? = some x) {b : Nat} (hb : b < n) (hp : x.p.holds b = true) : ws[4 * b + 3]? = some ((t : Int) + 1) ∧ ∀ (u : Nat) (y : GA), th[u]? = some y → y.p.holds b = true → u = t := by
  rcases h b hb with ⟨h1, h2⟩ | ⟨u, y, h1, h2, h3, h4⟩
  · rw [h2 t x hx] at hp; cases hp
  · obtain rfl := h4 t x hx hp
    exact ⟨h3, h4⟩
theorem GLat.unlock (h : GLat n ws th) (hx : th[t]? = some x) {b : Nat} (hb : b < n) (hp : ∀ b', x.p.holds b' = (b == b')) (hn : ∀ b, x'.p.holds b = false) : GLat n (ws.set (4 * b + 3) 0) (th.set t x') := fun b' hb' => by
  obtain ⟨g1, g2⟩ := h.has hx hb (by rw [hp]; simp)
  by_cases e : b = b'
  · subst e
    refine .inl ⟨set_near _ g1, fun i z hz => ?_⟩
    rcases set_cases hz with ⟨e1, e2⟩ | ⟨e1, e2⟩
    · subst e2; exact hn b
    · cases hh : z.p.holds b with
      | false => rfl
      | true => exact absurd (g2 i z e2 hh) e1
  · have hne : (b == b') = false := beq_eq_false_iff_ne.2 e
    rcases h b' hb' with ⟨h1, h2⟩ | ⟨u, y, h1, h2, h3, h4⟩
    · refine .inl ⟨by rw [set_far _ (by omega)]; exact h1, fun i z hz => ?_⟩
      rcases set_cases hz with ⟨e1, e2⟩ | ⟨e1, e2⟩
      · subst e2; exact hn b'
      · exact h2 i z e2
    · have hut : u ≠ t := fun e => by subst e; rw [← Option.some.inj (hx.symm.trans h1), hp, hne] at h2; cases h2
      refine .inr ⟨u, y, by rw [List.getElem?_set, if_neg (fun h => hut h.symm)]; exact h1, h2, by rw [set_far _ (by omega)]; exact h3, fun i z hz hhz => ?_⟩
      rcases set_cases hz with ⟨e1, e2⟩ | ⟨e1, e2⟩
      · subst e2; rw [hn] at hhz; cases hhz
      · exact h4 i z e2 hhz
/-- Thread t has turned: its sections are as they were, or later. -/
def Later (x x' : GA) : Prop := x.sec ≤ x'.sec ∧ ∀ c, x'.p = .inn c → (x.p = .inn c ∧ x'.val = x.val ∧ x'.sec = x.sec) ∨ x.sec < x'.sec
theorem GAhead.other {must : List Int} {st side : Nat} {left : List Nat} (h : GAhead n th must st side left) (hx : th[t]? = some x) (hl : Later x x') : GAhead n (th.set t x') must st side left := by
  intro j z m hz hm
  rcases set_cases hz with ⟨e1, e2⟩ | ⟨e1, e2⟩
  · subst e1; subst e2
    obtain ⟨h1, h2⟩ := h j x m hx hm
    refine ⟨by have := hl.1; omega, fun hm0 c hc hs => ?_⟩
    rcases hl.2 c hc with ⟨e3, e4, e5⟩ | e3
    · rw [e4]; exact h2 hm0 c e3 (e5 ▸ hs)
    · omega
  · exact h j z m e2 hm
theorem GTok.other {y : GA} (h : GTok n th y K) (hx : th[t]? = some x) (hl : Later x x') (hK : K ≤ K') : GTok n (th.set t x') y K' :=
  ⟨h.v, h.s0, by have := h.s1; omega, h.st, h.ent, h.inn, fun st side left hp => by
    obtain ⟨h1, h2, h3, h4, h5, h6, h7⟩ := h.wt st side left hp
    exact ⟨h1, h2, h3, h4, h5, h6, h7.other hx hl⟩⟩
theorem GInv.upd {ws' : List Int} (h : GInv n ⟨ws, th⟩ K) (hx : th[t]? = some x) (hl : Later x x') (hK : K ≤ K') (hlw : ws'.length = ws.length) (hg : GGate n ws') (hc : GCnt n ws' (th.set t x')) (ha : GLat n ws' (th.set t x')) (hok : GTok n (th.set t x') x' K') : GInv n ⟨ws', th.set t x'⟩ K' :=
  ⟨h.n0, by simp [h.lt], by rw [hlw]; exact h.lw, hg, hc, ha, fun u y hy => by
    rcases set_cases hy with ⟨e1, e2⟩ | ⟨e1, e2⟩
    · subst e2; exact hok
    · exact (h.thr u y e2).other hx hl hK⟩
theorem GInv.mono (h : GInv n ⟨ws, th⟩ K) (hK : K ≤ K') : GInv n ⟨ws, th⟩ K' :=
  ⟨h.n0, h.lt, h.lw, h.gate, h.cnt, h.lat, fun t x hx => by
    have a := h.thr t x hx
    exact ⟨a.v, a.s0, by have := a.s1; omega, a.st, a.ent, a.inn, a.wt⟩⟩
end
end Go.Lf
