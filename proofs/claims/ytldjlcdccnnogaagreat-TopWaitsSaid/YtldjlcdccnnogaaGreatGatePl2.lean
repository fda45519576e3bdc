/- gate: each act keeps what holds of the machine (plain). -/
import Derived.Test.YtldjlcdccnnogaaGreatGatePl
set_option linter.unusedVariables false
set_option linter.unusedSimpArgs false
namespace Go.Lf
theorem bkts_ne {s n : Nat} (hs : s < 18446744073709551616) (h0 : s ≠ 0) (hn : 1 ≤ n) : bkts s n ≠ [] := by
  obtain ⟨v, hv⟩ : ∃ v, s.testBit v = true := by
    refine Classical.byContradiction fun h => h0 ?_
    apply Nat.eq_of_testBit_eq
    intro i
    rw [Nat.zero_testBit]
    cases hb : s.testBit i with
    | false => rfl
    | true => exact absurd ⟨i, hb⟩ h
  have hv64 : v < 64 := by
    refine Classical.byContradiction fun h => ?_
    rw [Nat.testBit_lt_two_pow (Nat.lt_of_lt_of_le hs (Nat.pow_le_pow_right (n := 2) (by decide) (show 64 ≤ v by omega)))] at hv
    cases hv
  intro e
  have : v % n ∈ bkts s n := mem_bkts.2 ⟨Nat.mod_lt _ (by omega), inB_iff.2 ⟨v, hv64, rfl, hv⟩⟩
  rw [e] at this
  cases this
theorem holds_zero (side : Nat) (left : List Nat) (b : Nat) : (GP.wt 0 side left).holds b = false := by cases left <;> simp [GP.holds]
theorem lt_at {α : Type} {l : List α} {i : Nat} {x : α} (h : l[i]? = some x) : i < l.length := (List.getElem?_eq_some_iff.1 h).1
theorem ind_inc (c b : Nat) : (if (c == b) = true then (1 : Int) else 0) - (if false = true then 1 else 0) = if b = c then 1 else 0 := by
  by_cases e : c = b
  · subst e; simp
  · have e' : ¬ b = c := fun h => e h.symm
    simp [e, e']
theorem ind_dec (c b : Nat) : (if false = true then (1 : Int) else 0) - (if (c == b) = true then 1 else 0) = if b = c then -1 else 0 := by
  by_cases e : c = b
  · subst e; simp
  · have e' : ¬ b = c := fun h => e h.symm
    simp [e, e']
section
variable {n : Nat} {ws : List Int} {th : List GA} {t : Nat} {x x' : GA} {K K' : Int}
theorem Later.same (hs : x'.sec = x.sec) (hi : x'.p.isIn = false) : Later x x' :=
  ⟨by omega, fun c hc => by rw [hc] at hi; cases hi⟩
theorem mod_lt' {v n : Nat} (h : 1 ≤ n) : v % n < n := Nat.mod_lt _ (by omega)
/-- The address of a thread's count, and what lies there. -/
theorem GInv.cntAt (h : GInv n ⟨ws, th⟩ K) {v c : Nat} (hc : c = 4 * (v % n) + 1 ∨ c = 4 * (v % n) + 2) : ws[c]? = some (cntIn c th) ∧ 0 ≤ cntIn c th ∧ cntIn c th ≤ 6 := by
  have hb := cntIn_bound c th
  have hl : th.length = 6 := h.lt
  obtain ⟨h1, h2⟩ := h.cnt (v % n) (mod_lt' h.n0)
  refine ⟨?_, hb.1, by omega⟩
  rcases hc with rfl | rfl
  · exact h1
  · exact h2
theorem GInv.choose (h : GInv n ⟨ws, th⟩ K) (hx : th[t]? = some x) (hp : x.p = .ent none) (m : Nat) : GInv n ⟨ws, th.set t { x with p := .ent (some (4 * (x.val % n) + 1 + m % 2)) }⟩ K := by
  have a := h.thr t x hx
  refine h.upd hx (Later.same rfl rfl) (Int.le_refl _) rfl h.gate (h.cnt.same hx fun b => by rw [hp]; rfl) (h.lat.same hx fun b => by rw [hp]; rfl) ⟨a.v, a.s0, a.s1, a.st, fun c hc => ?_, fun c hc => by simp at hc, fun _ _ _ hc => by simp at hc⟩
  simp only [GP.ent.injEq, Option.some.injEq] at hc
  have := Nat.mod_two_eq_zero_or_one m
  rcases this with e | e <;> rw [e] at hc
  · exact .inl hc.symm
  · exact .inr hc.symm
theorem GInv.count (h : GInv n ⟨ws, th⟩ K) (hx : th[t]? = some x) {c : Nat} (hp : x.p = .ent (some c)) : GInv n ⟨ws.set c (wat ws c + 1), th.set t { x with p := .inn c, sec := x.sec + 1 }⟩ (K + 1) := by
  have a := h.thr t x hx
  have hc := a.ent c hp
  have s0 := a.s0
  have s1 := a.s1
  refine h.upd hx ⟨by simp only; omega, fun c' _ => .inr (by simp only; omega)⟩ (by omega) (by simp) (h.gate.far _ (by omega)) (h.cnt.turn hx c 1 fun b => ?_) ((h.lat.same hx fun b => by rw [hp]; rfl).far _ (by omega)) ⟨a.v, by simp only; omega, by simp only; omega, a.st, fun c hc => by simp at hc, fun c' hc' => ?_, fun _ _ _ hc => by simp at hc⟩
  · rw [hp]
    exact ind_inc c b
  · simp only [GP.inn.injEq] at hc'
    subst hc'
    exact ⟨hc, by simp only; omega⟩
theorem GInv.exit (h : GInv n ⟨ws, th⟩ K) (hx : th[t]? = some x) {c : Nat} (hp : x.p = .inn c) : GInv n ⟨ws.set c (wat ws c - 1), th.set t { x with p := .idle }⟩ K := by
  have a := h.thr t x hx
  have hc := (a.inn c hp).1
  rw [Int.sub_eq_add_neg]
  refine h.upd hx (Later.same rfl rfl) (Int.le_refl _) (by simp) (h.gate.far _ (by omega)) (h.cnt.turn hx c (-1) fun b => ?_) ((h.lat.same hx fun b => by rw [hp]; rfl).far _ (by omega)) ⟨a.v, a.s0, a.s1, a.st, fun c hc => by simp at hc, fun c hc => by simp at hc, fun _ _ _ hc => by simp at hc⟩
  rw [hp]
  exact ind_dec c b
theorem GInv.begin (h : GInv n ⟨ws, th⟩ K) (hx : th[t]? = some x) (hp : x.p = .idle) {v : Nat} (hv : v < 64) : GInv n ⟨ws, th.set t { x with p := .ent none, val := v }⟩ K := by
  have a := h.thr t x hx
  exact h.upd hx (Later.same rfl rfl) (Int.le_refl _) rfl h.gate (h.cnt.same hx fun b => by rw [hp]; rfl) (h.lat.same hx fun b => by rw [hp]; rfl) ⟨hv, a.s0, a.s1, a.st, fun c hc => by simp at hc, fun c hc => by simp at hc, fun _ _ _ hc => by simp at hc⟩
theorem gList_len (th : List GA) (set k : Nat) : (gList th set k).length = 6 := by simp [gList]
theorem gList_at (th : List GA) (set k : Nat) {i : Nat} (hi : i < 6) : (gList th set k)[i]? = some (if i < k then (match th[i]? with | some z => if z.p.isIn = true ∧ set.testBit z.val = true then z.sec else 0 | none => 0) else 0) := by
  unfold gList
  rw [List.getElem?_map, List.getElem?_range hi]
  rfl
theorem GInv.wbegin (h : GInv n ⟨ws, th⟩ K) (hx : th[t]? = some x) (hp : x.p = .idle) {s : Nat} (hs : s ≠ 0) (hs1 : s < 18446744073709551616) : GInv n ⟨ws, th.set t { x with p := .wt 0 0 (bkts s n), set := s, must := gList th s 6 }⟩ K := by
  have a := h.thr t x hx
  refine h.upd hx (Later.same rfl rfl) (Int.le_refl _) rfl h.gate (h.cnt.same hx fun b => by rw [hp]; rfl) (h.lat.same hx fun b => by rw [hp]; exact holds_zero _ _ _) ⟨a.v, a.s0, a.s1, hs1, fun c hc => by simp at hc, fun c hc => by simp at hc, fun st side left hc => ?_⟩
  simp only [GP.wt.injEq] at hc
  obtain ⟨rfl, rfl, rfl⟩ := hc
  refine ⟨bkts_ne hs1 hs h.n0, by omega, by omega, fun b hb => (mem_bkts.1 hb).1, gList_len _ _ _, bktTo_len s n n, fun j z m hz hm => ?_⟩
  have j6 : j < 6 := by have := lt_at hm; rw [gList_len] at this; exact this
  rw [gList_at th s 6 j6, if_pos j6] at hm
  rcases set_cases hz with ⟨e1, e2⟩ | ⟨e1, e2⟩
  · subst e1; subst e2
    rw [hx] at hm
    simp only [hp, GP.isIn] at hm
    obtain rfl := Option.some.inj hm
    simp only [Bool.false_eq_true, false_and, if_false]
    exact ⟨a.s0, fun h => absurd h (by omega)⟩
  · rw [e2] at hm
    simp only at hm
    have b := h.thr j z e2
    by_cases hc : z.p.isIn = true ∧ s.testBit z.val = true
    · rw [if_pos hc] at hm
      obtain rfl := Option.some.inj hm
      exact ⟨Int.le_refl _, fun _ c _ _ => ⟨mem_bkts.2 ⟨mod_lt' h.n0, inB_iff.2 ⟨z.val, b.v, rfl, hc.2⟩⟩, fun _ _ => ⟨fun h => absurd h (by omega), by omega⟩⟩⟩
    · rw [if_neg hc] at hm
      obtain rfl := Option.some.inj hm
      exact ⟨b.s0, fun h => absurd h (by omega)⟩

/-! The steps of a wait. -/
variable {side b : Nat} {rest : List Nat}
theorem GAhead.low {must : List Int} {st st' side' : Nat} {left : List Nat} (h : GAhead n th must st side left) (h3 : st' < 3) : GAhead n th must st' side' left := fun j z m hz hm => by
  obtain ⟨h1, h2⟩ := h j z m hz hm
  exact ⟨h1, fun h0 c hc hs => ⟨(h2 h0 c hc hs).1, fun _ _ => ⟨fun h => absurd h (by omega), by omega⟩⟩⟩
theorem GInv.step0 (h : GInv n ⟨ws, th⟩ K) (hx : th[t]? = some x) (hp : x.p = .wt 0 side (b :: rest)) (h0 : wat ws (4 * b + 3) = 0) : GInv n ⟨ws.set (4 * b + 3) (t + 1), th.set t { x with p := .wt 1 side (b :: rest) }⟩ K := by
  have a := h.thr t x hx
  obtain ⟨h1, h2, h3, h4, h5, h6, h7⟩ := a.wt _ _ _ hp
  refine h.upd hx (Later.same rfl rfl) (Int.le_refl _) (by simp) (h.gate.far _ (by omega)) ((h.cnt.same hx fun b => by rw [hp]; rfl).far _ (by omega)) (h.lat.lock hx (h4 b (by simp)) h0 (fun b' => by rw [hp]; rfl) (fun b' => by simp [GP.holds])) ⟨a.v, a.s0, a.s1, a.st, fun c hc => by simp at hc, fun c hc => by simp at hc, fun st' side' left' hc => ?_⟩
  simp only [GP.wt.injEq] at hc
  obtain ⟨rfl, rfl, rfl⟩ := hc
  exact ⟨h1, by omega, h3, h4, h5, h6, (h7.low (by omega)).other hx (Later.same rfl rfl)⟩
theorem GInv.step1 (h : GInv n ⟨ws, th⟩ K) (hx : th[t]? = some x) (hp : x.p = .wt 1 side (b :: rest)) : GInv n ⟨ws, th.set t { x with p := .wt 2 (wat ws (4 * b)).toNat (b :: rest) }⟩ K := by
  have a := h.thr t x hx
  obtain ⟨h1, h2, h3, h4, h5, h6, h7⟩ := a.wt _ _ _ hp
  refine h.upd hx (Later.same rfl rfl) (Int.le_refl _) rfl h.gate (h.cnt.same hx fun b => by rw [hp]; rfl) (h.lat.same hx fun b' => by rw [hp]; rfl) ⟨a.v, a.s0, a.s1, a.st, fun c hc => by simp at hc, fun c hc => by simp at hc, fun st' side' left' hc => ?_⟩
  simp only [GP.wt.injEq] at hc
  obtain ⟨rfl, rfl, rfl⟩ := hc
  obtain ⟨g, hg, hw⟩ := h.gate b (h4 b (by simp))
  exact ⟨h1, by omega, by rw [wat_of hw]; omega, h4, h5, h6, (h7.low (by omega)).other hx (Later.same rfl rfl)⟩
theorem GInv.step2 (h : GInv n ⟨ws, th⟩ K) (hx : th[t]? = some x) (hp : x.p = .wt 2 side (b :: rest)) (h0 : wat ws (4 * b + 1 + (side + 1) % 2) = 0) : GInv n ⟨ws, th.set t { x with p := .wt 3 side (b :: rest) }⟩ K := by
  have a := h.thr t x hx
  obtain ⟨h1, h2, h3, h4, h5, h6, h7⟩ := a.wt _ _ _ hp
  refine h.upd hx (Later.same rfl rfl) (Int.le_refl _) rfl h.gate (h.cnt.same hx fun b => by rw [hp]; rfl) (h.lat.same hx fun b' => by rw [hp]; rfl) ⟨a.v, a.s0, a.s1, a.st, fun c hc => by simp at hc, fun c hc => by simp at hc, fun st' side' left' hc => ?_⟩
  simp only [GP.wt.injEq] at hc
  obtain ⟨rfl, rfl, rfl⟩ := hc
  refine ⟨h1, by omega, h3, h4, h5, h6, GAhead.other (fun j z m hz hm => ?_) hx (Later.same rfl rfl)⟩
  obtain ⟨q1, q2⟩ := h7 j z m hz hm
  refine ⟨q1, fun hm0 c hc hs => ⟨(q2 hm0 c hc hs).1, fun r hr => ⟨fun _ => ?_, by omega⟩⟩⟩
  have hb : b = z.val % n := by simp only [List.cons.injEq] at hr; exact hr.1
  have hcc := ((h.thr j z hz).inn c hc).1
  obtain ⟨w1, -⟩ := h.cntAt hcc
  have hpos := cntIn_pos (a := c) hz (by rw [hc]; simp [GP.isAt])
  have hne : c ≠ 4 * b + 1 + (side + 1) % 2 := fun e => by subst e; rw [wat_of w1] at h0; omega
  omega
theorem GInv.step3 (h : GInv n ⟨ws, th⟩ K) (hx : th[t]? = some x) (hp : x.p = .wt 3 side (b :: rest)) : GInv n ⟨ws.set (4 * b) (1 - (side % 2 : Nat)), th.set t { x with p := .wt 4 side (b :: rest) }⟩ K := by
  have a := h.thr t x hx
  obtain ⟨h1, h2, h3, h4, h5, h6, h7⟩ := a.wt _ _ _ hp
  refine h.upd hx (Later.same rfl rfl) (Int.le_refl _) (by simp) ?_ ((h.cnt.same hx fun b => by rw [hp]; rfl).far _ (by omega)) ((h.lat.same hx fun b' => by rw [hp]; rfl).far _ (by omega)) ⟨a.v, a.s0, a.s1, a.st, fun c hc => by simp at hc, fun c hc => by simp at hc, fun st' side' left' hc => ?_⟩
  · rw [show (1 - ((side % 2 : Nat) : Int)) = ((1 - side % 2 : Nat) : Int) by omega]
    exact h.gate.near _ (by omega)
  simp only [GP.wt.injEq] at hc
  obtain ⟨rfl, rfl, rfl⟩ := hc
  refine ⟨h1, by omega, h3, h4, h5, h6, GAhead.other (fun j z m hz hm => ?_) hx (Later.same rfl rfl)⟩
  obtain ⟨q1, q2⟩ := h7 j z m hz hm
  exact ⟨q1, fun hm0 c hc hs => ⟨(q2 hm0 c hc hs).1, fun r hr => ⟨fun _ => ((q2 hm0 c hc hs).2 r hr).1 (by omega), by omega⟩⟩⟩
theorem GInv.step4 (h : GInv n ⟨ws, th⟩ K) (hx : th[t]? = some x) (hp : x.p = .wt 4 side (b :: rest)) (h0 : wat ws (4 * b + 1 + side % 2) = 0) : GInv n ⟨ws, th.set t { x with p := .wt 5 side (b :: rest) }⟩ K := by
  have a := h.thr t x hx
  obtain ⟨h1, h2, h3, h4, h5, h6, h7⟩ := a.wt _ _ _ hp
  refine h.upd hx (Later.same rfl rfl) (Int.le_refl _) rfl h.gate (h.cnt.same hx fun b => by rw [hp]; rfl) (h.lat.same hx fun b' => by rw [hp]; rfl) ⟨a.v, a.s0, a.s1, a.st, fun c hc => by simp at hc, fun c hc => by simp at hc, fun st' side' left' hc => ?_⟩
  simp only [GP.wt.injEq] at hc
  obtain ⟨rfl, rfl, rfl⟩ := hc
  refine ⟨h1, by omega, h3, h4, h5, h6, GAhead.other (fun j z m hz hm => ?_) hx (Later.same rfl rfl)⟩
  obtain ⟨q1, q2⟩ := h7 j z m hz hm
  refine ⟨q1, fun hm0 c hc hs => ⟨(q2 hm0 c hc hs).1, fun r hr => ?_⟩⟩
  exfalso
  have hb : b = z.val % n := by simp only [List.cons.injEq] at hr; exact hr.1
  have hcc := ((h.thr j z hz).inn c hc).1
  obtain ⟨w1, -⟩ := h.cntAt hcc
  have hpos := cntIn_pos (a := c) hz (by rw [hc]; simp [GP.isAt])
  have he := ((q2 hm0 c hc hs).2 r hr).1 (by omega)
  have : c = 4 * b + 1 + side % 2 := by omega
  rw [← this, wat_of w1] at h0
  omega
theorem GInv.step5 (h : GInv n ⟨ws, th⟩ K) (hx : th[t]? = some x) (hp : x.p = .wt 5 side (b :: rest)) : GInv n ⟨ws.set (4 * b + 3) 0, th.set t { x with p := if rest = [] then .idle else .wt 0 side rest }⟩ K := by
  have a := h.thr t x hx
  obtain ⟨h1, h2, h3, h4, h5, h6, h7⟩ := a.wt _ _ _ hp
  have hin : (if rest = [] then GP.idle else GP.wt 0 side rest).isIn = false := by split <;> rfl
  have hno : ∀ b', (if rest = [] then GP.idle else GP.wt 0 side rest).holds b' = false := fun b' => by
    split
    · rfl
    · exact holds_zero _ _ _
  refine h.upd hx (Later.same rfl hin) (Int.le_refl _) (by simp) (h.gate.far _ (by omega)) ((h.cnt.same hx fun b => by rw [hp]; simp only; split <;> rfl).far _ (by omega)) (h.lat.unlock hx (h4 b (by simp)) (fun b' => by rw [hp]; simp [GP.holds]) (fun b' => hno b')) ⟨a.v, a.s0, a.s1, a.st, fun c hc => by simp only at hc; split at hc <;> simp at hc, fun c hc => by simp only at hc; split at hc <;> simp at hc, fun st' side' left' hc => ?_⟩
  simp only at hc
  split at hc
  · simp at hc
  rename_i hne
  simp only [GP.wt.injEq] at hc
  obtain ⟨rfl, rfl, rfl⟩ := hc
  refine ⟨hne, by omega, h3, fun b' hb' => h4 b' (by simp [hb']), h5, by simp only [List.length_cons] at h6; omega, GAhead.other (fun j z m hz hm => ?_) hx (Later.same rfl hin)⟩
  obtain ⟨q1, q2⟩ := h7 j z m hz hm
  refine ⟨q1, fun hm0 c hc hs => ⟨?_, fun r hr => ⟨fun h => absurd h (by omega), by omega⟩⟩⟩
  obtain ⟨e1, e2⟩ := q2 hm0 c hc hs
  rcases List.mem_cons.1 e1 with e | e
  · exact absurd rfl (e2 rest (by rw [e])).2
  · exact e
/-- A wait that ends has waited for what it had to. -/
theorem GInv.ends (h : GInv n ⟨ws, th⟩ K) (hx : th[t]? = some x) (hp : x.p = .wt 5 side [b]) : ∀ (j : Nat) (z : GA) (m : Int), th[j]? = some z → x.must[j]? = some m → ¬ (0 < m ∧ z.p.isIn = true ∧ z.sec = m) := by
  rintro j z m hz hm ⟨g1, g2, g3⟩
  obtain ⟨h1, h2, h3, h4, h5, h6, h7⟩ := (h.thr t x hx).wt _ _ _ hp
  obtain ⟨c, hc⟩ : ∃ c, z.p = .inn c := by
    cases hzp : z.p with
    | inn c => exact ⟨c, rfl⟩
    | idle => rw [hzp] at g2; cases g2
    | ent c => rw [hzp] at g2; cases g2
    | wt a b c => rw [hzp] at g2; cases g2
  obtain ⟨e1, e2⟩ := (h7 j z m hz hm).2 g1 c hc g3
  simp only [List.mem_cons, List.not_mem_nil, or_false] at e1
  exact (e2 [] (by rw [e1])).2 rfl

theorem GInv.enter (h : GInv n ⟨ws, th⟩ K) (hx : th[t]? = some x) : GInv n (GS.enter n ⟨ws, th⟩ t x) (K + 1) := by
  unfold GS.enter
  split
  · rename_i hp; exact (h.choose hx hp _).mono (by omega)
  · rename_i c hp; exact h.count hx hp
  · exact h.mono (by omega)
theorem GInv.wait (h : GInv n ⟨ws, th⟩ K) (hx : th[t]? = some x) : GInv n (GS.wait ⟨ws, th⟩ t x) K := by
  unfold GS.wait
  split
  · rename_i hp
    split
    · rename_i h0; exact h.step0 hx hp h0
    · exact h
  · rename_i hp; exact h.step1 hx hp
  · rename_i hp
    split
    · rename_i h0; exact h.step2 hx hp h0
    · exact h
  · rename_i hp; exact h.step3 hx hp
  · rename_i hp
    split
    · rename_i h0; exact h.step4 hx hp h0
    · exact h
  · rename_i hp; exact h.step5 hx hp
  · exact h
theorem GInv.act {s : GS} (h : GInv n s K) (t : Nat) (what : Int) (v set : Nat) (hv : v < 64) (hs : set ≠ 0) (hs1 : set < 18446744073709551616) : GInv n (s.act n t what v set) (K + 1) := by
  obtain ⟨ws, th⟩ := s
  unfold GS.act
  simp only
  cases hx : th[t]? with
  | none => exact h.mono (by omega)
  | some x =>
    simp only
    cases hp : x.p with
    | ent c => exact h.enter hx
    | wt a b c => exact (h.wait hx).mono (by omega)
    | inn c =>
      simp only
      split
      · exact h.mono (by omega)
      · exact (h.exit hx hp).mono (by omega)
    | idle =>
      simp only
      split
      · exact (h.begin hx hp hv).enter (put_self hx _)
      · exact ((h.wbegin hx hp hs hs1).wait (put_self hx _)).mono (by omega)
end
end Go.Lf
