/- full: a thread enters a section, or begins to wait: contracts. -/
import Derived.Test.YtckopbjejjeknaaFullAct
namespace Go.Lf
/-- What a wait that begins has to wait for, of the first k threads. -/
def mList (th : List PT) (k : Nat) : List Int := (List.range 6).map fun i => if i < k then (match th[i]? with | some z => if z.inn then z.sec else 0 | none => 0) else 0
theorem mList_len (th : List PT) (k : Nat) : (mList th k).length = 6 := by simp [mList]
theorem mList_zero (th : List PT) : mList th 0 = [0, 0, 0, 0, 0, 0] := by simp [mList]; rfl
theorem mList_at (th : List PT) (k i : Nat) (hi : i < 6) : (mList th k)[i]? = some (if i < k then (match th[i]? with | some z => if z.inn then z.sec else 0 | none => 0) else 0) := by simp [mList, hi]
theorem mList_yes {th : List PT} {k : Nat} {z : PT} (hk : k < 6) (hz : th[k]? = some z) (hin : z.inn = true) : mList th (k + 1) = (mList th k).set k z.sec := by
  apply List.ext_getElem?
  intro i
  rw [List.getElem?_set, mList_len]
  by_cases hi : i < 6
  · rw [mList_at th (k + 1) i hi, mList_at th k i hi]
    by_cases e : k = i
    · subst e
      rw [if_pos rfl, if_pos hk, if_pos (by omega), hz]
      simp [hin]
    · rw [if_neg e]
      by_cases h1 : i < k
      · rw [if_pos (by omega), if_pos h1]
      · rw [if_neg (by omega), if_neg h1]
  · rw [List.getElem?_eq_none (by rw [mList_len]; omega), List.getElem?_eq_none (by rw [mList_len]; omega)]
    split <;> simp
    omega
theorem mList_no {th : List PT} {k : Nat} {z : PT} (hz : th[k]? = some z) (hin : z.inn = false) : mList th (k + 1) = mList th k := by
  apply List.ext_getElem?
  intro i
  by_cases hi : i < 6
  · rw [mList_at th (k + 1) i hi, mList_at th k i hi]
    by_cases e : k = i
    · subst e
      rw [if_pos (by omega), if_neg (by omega), hz]
      simp [hin]
    · by_cases h1 : i < k
      · rw [if_pos (by omega), if_pos h1]
      · rw [if_neg (by omega), if_neg h1]
  · rw [List.getElem?_eq_none (by rw [mList_len]; omega), List.getElem?_eq_none (by rw [mList_len]; omega)]
end Go.Lf
namespace Go.Proofs.Ytckopbjejjeknaa
open Go.RowKit Go.Lf
section
variable {w wr w' : World} {rb g nb bb mb : Nat} {F : Nat → Prop} {nums : List Int} {beg : List Bool} {th : List PT} {log : List Acc}

theorem runCells_same (mb g : Nat) {t : Nat} {x x' : PT} (hx : th[t]? = some x) (he : thCells x' = thCells x) : runCells mb g (th.set t x') = runCells mb g th := by
  unfold runCells
  congr 1
  induction th generalizing t with
  | nil => rfl
  | cons a l ih =>
    cases t with
    | zero =>
      simp at hx; subst hx
      simp [he]
    | succ t => simp [ih (t := t) (by simpa using hx)]
theorem RunAt.addWait (h : RunAt w wr rb g nb bb mb F nums beg th log) {t : Nat} {x : PT} (hx : th[t]? = some x) {b sb : Nat} {s0 : WS} {l : List Int} (hw : WaitAt wr b g t s0) (hl : wr.heap[sb]? = some (.cells (l.map (Value.int .i64)).toArray 3 (0, 0))) (ll : l.length = 6)
    (hFb : ¬ F b) (hFs : ¬ F sb) (lb : w.heap.size ≤ b) (ls : w.heap.size ≤ sb) (hne : ∀ (i : Nat) (y : PT) (c : Nat) (u : WS), th[i]? = some y → y.wt = some (c, u) → c ≠ b) (v : Int) :
    RunAt w (((wr.setCell ⟨rb, 2 + t * 7 + 1, none⟩ (.pointer (some ⟨b, 0, none⟩))).setCell ⟨rb, 2 + t * 7 + 5, none⟩ (.int .u64 v)).setCell ⟨rb, 2 + t * 7 + 6, none⟩ (.slice (some ⟨sb, 0, none⟩) 6 6)) rb g nb bb mb F nums beg (th.set t { x with wt := some (b, s0), set := v, mu := some (sb, l) }) log := by
  obtain ⟨n1, n2, n3⟩ := h.ne
  obtain ⟨W, hW⟩ : ∃ W, W = ((wr.setCell ⟨rb, 2 + t * 7 + 1, none⟩ (.pointer (some ⟨b, 0, none⟩))).setCell ⟨rb, 2 + t * 7 + 5, none⟩ (.int .u64 v)).setCell ⟨rb, 2 + t * 7 + 6, none⟩ (.slice (some ⟨sb, 0, none⟩) 6 6) := ⟨_, rfl⟩
  rw [← hW]
  have hk : Keep (fun k => k = rb) wr W := by rw [hW]; exact Keep.setCell (Keep.setCell (Keep.setCell (Keep.refl (fun k => k = rb) wr) (.inl rfl) _) (.inl rfl) _) (.inl rfl) _
  have q1 := run_set h.run hx (j := 1) (by decide) (.pointer (some ⟨b, 0, none⟩)) (x' := { x with wt := some (b, s0) }) rfl
  have q2 := run_set q1 (set_self hx _) (j := 5) (by decide) (.int .u64 v) (x' := { x with wt := some (b, s0), set := v }) rfl
  rw [List.set_set] at q2
  have q3 := run_set q2 (set_self hx _) (j := 6) (by decide) (.slice (some ⟨sb, 0, none⟩) 6 6) (x' := { x with wt := some (b, s0), set := v, mu := some (sb, l) }) rfl
  rw [List.set_set, ← hW] at q3
  have key : ∀ (i : Nat) (y : PT), (th.set t { x with wt := some (b, s0), set := v, mu := some (sb, l) })[i]? = some y → (i = t ∧ y = { x with wt := some (b, s0), set := v, mu := some (sb, l) }) ∨ (i ≠ t ∧ th[i]? = some y) := by
    intro i y hy
    rw [List.getElem?_set] at hy
    split at hy
    · rename_i e; subst e
      split at hy
      · exact .inl ⟨rfl, (Option.some.inj hy).symm⟩
      · cases hy
    · rename_i e; exact .inr ⟨fun h => e h.symm, hy⟩
  refine ⟨h.sys.keep hk (fun k hF e => h.fr (by rw [← e]; exact hF)) (fun e => n1 e.symm) (fun e => n2 e.symm) (fun e => n3 e.symm), q3, h.fr, ⟨h.own.1.trans hk (fun j hj e => by have := h.orb; omega), h.own.2⟩, h.onb, h.obb, h.orb, h.lnum, by simp [h.lth], h.lbeg, ?_, ?_, ?_⟩
  · intro i y c u h1 h2
    rcases key i y h1 with ⟨e1, e2⟩ | ⟨e1, e2⟩
    · rw [e2] at h2
      simp only [Option.some.injEq, Prod.mk.injEq] at h2
      rw [← h2.1, ← h2.2, e1]
      exact ⟨hw.keepW hk (fun e => by subst e; exact type_ne hw h.run (by decide) rfl), hFb, lb⟩
    · obtain ⟨a1, a2, a3⟩ := h.waits i y c u e2 h2
      exact ⟨a1.keepW hk (fun e => by subst e; exact type_ne a1 h.run (by decide) rfl), a2, a3⟩
  · intro i y c l' h1 h2
    rcases key i y h1 with ⟨e1, e2⟩ | ⟨e1, e2⟩
    · rw [e2] at h2
      simp only [Option.some.injEq, Prod.mk.injEq] at h2
      rw [← h2.1, ← h2.2]
      exact ⟨hk.at hl (fun e => by subst e; exact type_ne hl h.run (by decide) rfl), hFs, ls, ll⟩
    · obtain ⟨a1, a2, a3, a4⟩ := h.musts i y c l' e2 h2
      exact ⟨hk.at a1 (fun e => by subst e; exact type_ne a1 h.run (by decide) rfl), a2, a3, a4⟩
  · intro i j y1 y2 c d u u' h1 h2 h3 h4 hne'
    rcases key i y1 h1 with ⟨e1, f1⟩ | ⟨e1, f1⟩ <;> rcases key j y2 h2 with ⟨e2, f2⟩ | ⟨e2, f2⟩
    · exact absurd (e1.trans e2.symm) hne'
    · rw [f1] at h3
      simp only [Option.some.injEq, Prod.mk.injEq] at h3
      rw [← h3.1]
      exact (hne j y2 d u' f2 h4).symm
    · rw [f2] at h4
      simp only [Option.some.injEq, Prod.mk.injEq] at h4
      rw [← h4.1]
      exact hne i y1 c u f1 h3
    · exact h.apart i j y1 y2 c d u u' f1 f2 h3 h4 hne'
theorem RunAt.setMust (h : RunAt w wr rb g nb bb mb F nums beg th log) {t : Nat} {x : PT} (hx : th[t]? = some x) {sb : Nat} {l : List Int} (hm : x.mu = some (sb, l)) (hne : ∀ (i : Nat) (y : PT) (c : Nat) (l' : List Int), i ≠ t → th[i]? = some y → y.mu = some (c, l') → c ≠ sb) (k : Nat) (m : Int) :
    RunAt w (wr.setCell ⟨sb, k, none⟩ (.int .i64 m)) rb g nb bb mb F nums beg (th.set t { x with mu := some (sb, l.set k m) }) log := by
  obtain ⟨b1, b2, b3, b4⟩ := h.musts t x sb l hx hm
  have hk : Keep (fun k => k = sb) wr (wr.setCell ⟨sb, k, none⟩ (.int .i64 m)) := Keep.setCell (Keep.refl (fun k => k = sb) wr) (.inl rfl) _
  have r1 : rb ≠ sb := type_ne h.run b1 (by decide)
  have r2 : g ≠ sb := type_ne h.sys.eng.head b1 (by decide)
  have r3 : nb ≠ sb := type_ne h.sys.eng.hnums b1 (by decide)
  have r4 : bb ≠ sb := type_ne h.sys.eng.hbeg b1 (by decide)
  have key : ∀ (i : Nat) (y : PT), (th.set t { x with mu := some (sb, l.set k m) })[i]? = some y → (i = t ∧ y = { x with mu := some (sb, l.set k m) }) ∨ (i ≠ t ∧ th[i]? = some y) := by
    intro i y hy
    rw [List.getElem?_set] at hy
    split at hy
    · rename_i e; subst e
      split at hy
      · exact .inl ⟨rfl, (Option.some.inj hy).symm⟩
      · cases hy
    · rename_i e; exact .inr ⟨fun h => e h.symm, hy⟩
  have old : ∀ (i : Nat) (y : PT), (th.set t { x with mu := some (sb, l.set k m) })[i]? = some y → ∃ z, th[i]? = some z ∧ z.wt = y.wt := by
    intro i y hy
    rcases key i y hy with ⟨e1, e2⟩ | ⟨e1, e2⟩
    · exact ⟨x, e1 ▸ hx, by rw [e2]⟩
    · exact ⟨y, e2, rfl⟩
  refine ⟨h.sys.keep hk (fun k hF e => b2 (by rw [← e]; exact hF)) r2 r3 r4, ?_, h.fr, ⟨h.own.1.trans hk (fun j hj e => by omega), h.own.2⟩, h.onb, h.obb, h.orb, h.lnum, by simp [h.lth], h.lbeg, ?_, ?_, ?_⟩
  · rw [runCells_same mb g hx (by simp [thCells, mustV, hm])]
    exact hk.at h.run r1
  · intro i y c u h1 h2
    obtain ⟨z, hz, e⟩ := old i y h1
    obtain ⟨a1, a2, a3⟩ := h.waits i z c u hz (e.trans h2)
    exact ⟨a1.keepW hk (fun e => by subst e; exact type_ne a1 b1 (by decide) rfl), a2, a3⟩
  · intro i y c l' h1 h2
    rcases key i y h1 with ⟨e1, e2⟩ | ⟨e1, e2⟩
    · rw [e2] at h2
      simp only [Option.some.injEq, Prod.mk.injEq] at h2
      rw [← h2.1, ← h2.2]
      refine ⟨?_, b2, b3, by simp [b4]⟩
      rw [set_same b1]
      simp [List.map_set]
    · obtain ⟨a1, a2, a3, a4⟩ := h.musts i y c l' e2 h2
      exact ⟨hk.at a1 (hne i y c l' e1 e2 h2), a2, a3, a4⟩
  · intro i j y1 y2 c d u u' h1 h2 h3 h4 hne'
    obtain ⟨z1, hz1, e1⟩ := old i y1 h1
    obtain ⟨z2, hz2, e2⟩ := old j y2 h2
    exact h.apart i j z1 z2 c d u u' hz1 hz2 (e1.trans h3) (e2.trans h4) hne'

set_option maxRecDepth 100000 in
set_option maxHeartbeats 8000000 in
theorem act_enter (h : RunAt w wr rb g nb bb mb F nums beg th log) (t : Nat) (x : PT) (hx : th[t]? = some x) (hen : x.en = none) (hwt : x.wt = none) (hin : x.inn = false) (what v s : Int) (h0 : 0 ≤ what) (hw : what % 4 < 2) (v0 : 0 ≤ v) (v1 : v < 64) (n : Int) (hn : nums[t]? = some n) (n0 : 0 ≤ n) (n1 : n < 1000000000000) (hev : n % 2 = 0) (hb : beg[t]? = some false) (hlog : log.length < 100000000000) (hsec : 0 ≤ x.sec) (hsec1 : x.sec < 1000000000000) :
    Calls Try.prog 37 #[.pointer (some ⟨rb, 0, none⟩), .int .i64 t, .int .u8 what, .int .i64 v, .int .u64 s] wr fun e w' => e = .returned (.bool true) ∧ RunTo w rb g nb bb mb (nums.set t (n + 1)) beg (th.set t { x with inn := true, val := v, sec := x.sec + 1 }) (log.length + 1) w' := by
  have t6 : t < 6 := by have := lt_of_at hx; have := h.lth; omega
  obtain ⟨c0, c1, c2, c3, c4, c5, c6⟩ := h.cells hx
  rw [hen] at c0
  rw [hwt] at c1
  rw [hin] at c2
  simp only [ptrE] at c0
  simp only [ptrW] at c1
  have cg := h.top.2
  have d1 : decide (what % 4 < 2) = true := decide_eq_true hw
  have ST := hid (fenter_ok h.sys v (t := (t : Int)) (i := t) (by omega) (by omega) v0 v1 n hn n0 hev hb)
  have H := hid h
  have HX := hid hx
  have HN := hid hn
  have HB := hid hb
  have HEN := hid hen
  clear h hx hen hwt hin hw hn hev hb c4 c5 c6
  go_enter Try.func37, Try.ntmps37
  go_wp2_with fail
  refine ST.out.mono ?_
  rintro e w2 ⟨rfl, hs2, he2, hk2, hz2⟩
  have r2 := H.out.adv hs2 hk2 (fun k hk => .inl hk) (fun k hk _ => .inr (.inr (.inl hk))) H.out.lnum (by simp [H.out.lbeg])
  have z0 := r2.free (2 + t * 7)
  have z3 := r2.free (2 + t * 7 + 3)
  have a0 := r2.turn HX.out (j := 0) (by decide) (.pointer (some ⟨wr.heap.size, 0, none⟩)) (x' := { x with en := some wr.heap.size }) rfl (.inl rfl) rfl
  have a3 := a0.turn (set_self HX.out _) (j := 3) (by decide) (.int .i64 v) (x' := { x with en := some wr.heap.size, val := v }) rfl (.inl rfl) rfl
  rw [List.set_set] at a3
  have q0 := (r2.cells HX.out).1
  have q3 := (r2.cells HX.out).2.2.2.1
  rw [HEN.out] at q0
  simp only [ptrE] at q0
  have hle : w.heap.size ≤ wr.heap.size := H.out.own.1.size
  have nF : ¬ F wr.heap.size := fun hF => absurd (H.out.sys.mem.lt _ hF) (Nat.lt_irrefl _)
  have e3 : EntAt ((w2.setCell ⟨rb, 2 + t * 7 + 0, none⟩ (.pointer (some ⟨wr.heap.size, 0, none⟩))).setCell ⟨rb, 2 + t * 7 + 3, none⟩ (.int .i64 v)) wr.heap.size g t t true := by
    have hne : wr.heap.size ≠ rb := fun e => by have := lt_of_block H.out.run; omega
    exact set_other (set_other he2 hne _) hne _
  have ce0 := renter_ok a3 t { x with en := some wr.heap.size, val := v } wr.heap.size (set_self HX.out _) rfl e3 nF hle n HN.out n0 n1 hlog hsec hsec1
  rw [List.set_set, List.set_set] at ce0
  have hbb : beg.set t false = beg := by
    obtain ⟨h1, h2⟩ := List.getElem?_eq_some_iff.1 HB.out
    rw [← h2]; exact List.set_getElem_self h1
  rw [hbb] at ce0
  have ce := hid ce0
  clear ce0 hbb
  have A3 := hid a3
  clear ST hs2 he2 hk2 hz2 r2 a0 a3 c0 c1 c2 c3 cg e3 hle nF
  go_wp2_with fail
  refine ce.out.mono ?_
  rintro e w3 ⟨rfl, hq⟩
  have HQ := hid hq
  clear hq ce
  go_wp2
  go_ret
  have := HQ.out
  rw [show ({ x with en := none, inn := true, val := v, sec := x.sec + 1 } : PT) = { x with inn := true, val := v, sec := x.sec + 1 } by rw [← HEN.out]] at this
  exact ⟨rfl, this⟩
end
end Go.Proofs.Ytckopbjejjeknaa
