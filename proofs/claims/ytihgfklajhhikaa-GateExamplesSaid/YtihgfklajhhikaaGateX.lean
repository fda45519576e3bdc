/- GateExamples: the engine with its operations, in plain terms. -/
import Derived.Test.YtihgfklajhhikaaGateP2
import Derived.Test.YtihgfklajhhikaaMemNew
import Derived.Test.YtihgfklajhhikaaMemRead
set_option linter.unusedVariables false
set_option linter.unusedSimpArgs false
namespace Go.Proofs.Ytihgfklajhhikaa
open Go.RowKit Go.Lf
/-- A side with nothing in it. -/
def Triv : Lies Unit := ⟨fun _ A _ => ∀ k, ¬ A k, fun h _ _ => h, fun h k hA => absurd hA (h k)⟩
structure GX (w : World) (g r mb K : Nat) (L : Nat → Prop) (ws : List Int) (ops : List GOp) (sl : List GSl) (al : List Nat) (wr : World) : Prop where
  ex : ∃ S bo, Two (GLies g r mb 0 2) Triv w L (S, bo) () wr ∧ S.ok 0 2 K ∧ S.ws = ws ∧ S.ops = ops ∧ S.sl = sl ∧ bo.map (fun o => o.2.a) = al
section
variable {w wr w' : World} {g r mb K : Nat} {L : Nat → Prop} {ws : List Int} {ops : List GOp} {sl : List GSl} {al : List Nat}
theorem GX.quiet (h : GX w g r mb K L ws ops sl al wr) (hk : Keep Nil wr w') : GX w g r mb K L ws ops sl al w' := by
  obtain ⟨S, bo, h1, h2⟩ := h.ex
  exact ⟨S, bo, h1.quiet hk, h2⟩
theorem GX.loc (h : GX w g r mb K L ws ops sl al wr) (hk : Keep L wr w') {L' : Nat → Prop} (hL : ∀ k, L' k → L k ∨ (wr.heap.size ≤ k ∧ k < w'.heap.size)) : GX w g r mb K L' ws ops sl al w' := by
  obtain ⟨S, bo, h1, h2⟩ := h.ex
  exact ⟨S, bo, h1.loc hk hL, h2⟩
theorem GX.own (h : GX w g r mb K L ws ops sl al wr) : Keep Nil w wr := by
  obtain ⟨S, bo, h1, h2⟩ := h.ex
  exact h1.own
theorem GX.step (h : GX w g r mb K L ws ops sl al wr) (hK : K ≤ 1000) {i a : Nat} (ha : al[i]? = some a) {o o' : GOp} (ho : ops[i]? = some o) {ws' : List Int} {sl' : List GSl} {pc : Int} {d : Bool} (hst : ∀ log, ∃ log', Go.Lf.GStep 0 ⟨sl, ws, log, ops⟩ i ⟨sl', ws', log', ops.set i o'⟩ pc d) :
    Calls Try.prog (GOp.pstep o) #[ptr a] wr fun e w' => e = .returned (.tuple #[.int .u8 pc, .bool d]) ∧ GX w g r mb (K + 1) L ws' (ops.set i o') sl' al w' ∧ Keep (Out w L) wr w' := by
  obtain ⟨⟨sl0, ws0, log0, ops0⟩, bo, h1, h2, rfl, rfl, rfl, h4⟩ := h.ex
  obtain ⟨log', hst⟩ := hst log0
  have hok' := gstep_ok h2 hst
  have ho0 : bo.map Prod.fst = ops0 := by obtain ⟨A, F, ml, hA⟩ := h1.has1; exact hA.ops.symm
  obtain ⟨p, hp⟩ : ∃ p, bo[i]? = some (o, p) := fst_at (by rw [ho0]; exact ho)
  have hpa : p.a = a := by
    rw [← h4] at ha
    simp only [List.getElem?_map, hp, Option.map_some, Option.some.injEq] at ha
    exact ha
  have hc := h1.call1x (s' := fun bo' => ((⟨sl', ws', log', ops0.set i o'⟩ : GSt), bo')) (Φ := fun bo' e => e = .returned (.tuple #[.int .u8 pc, .bool d]) ∧ bo'.map (fun o => o.2.a) = bo.map (fun o => o.2.a)) (Q := Try.prog) (f := GOp.pstep o) (args := #[ptr a]) (by
    rintro A ⟨F, ml, hA⟩
    change GPAt _ _ _ _ _ _ _ (⟨sl0, ws0, log0, ops0⟩ : GSt) bo _ _ at hA
    rw [← hpa]
    exact gpstep_any hA h2 (by decide) (by decide) (by omega) hp hst)
  refine hc.mono ?_
  rintro e w' ⟨bo', ⟨rfl, e2⟩, t2, k2⟩
  exact ⟨rfl, ⟨_, bo', t2, hok', rfl, rfl, rfl, e2.trans h4⟩, k2⟩
theorem GX.enter (h : GX w g r mb K L ws ops sl al wr) {t : Int} {s v : Nat} {x : GSl} (t0 : 0 ≤ t) (t1 : t < 64) (hv : v < 64) (hx : sl[s]? = some x) (hp : x.ph = 0) :
    Calls Try.prog 54 #[ptr g, .int .i64 t, .int .i64 s, .int .i64 v] wr fun e w' => ∃ a, e = .returned (.tuple #[ptr a, .int .i64 0]) ∧ GX w g r mb (K + 1) L ws (ops ++ [.en t s (v % 2) none false]) (sl.set s ⟨1, v % 2, x.sd, ops.length⟩) (al ++ [a]) w' ∧ Keep (Out w L) wr w' := by
  obtain ⟨S, bo, h1, h2, rfl, rfl, rfl, h4⟩ := h.ex
  have hc := h1.call1x (s' := fun p : GPB => (S.begun t s (v % 2) x, bo ++ [(.en t s (v % 2) none false, p)])) (Φ := fun p e => e = .returned (.tuple #[ptr p.a, .int .i64 0])) (Q := Try.prog) (f := 54) (args := #[ptr g, .int .i64 t, .int .i64 s, .int .i64 v]) (by
    rintro A ⟨F, ml, hA⟩
    exact gpenter_ok hA h2 (by decide) (by decide) (by decide) t0 t1 hv hx hp)
  refine hc.mono ?_
  rintro e w' ⟨p, rfl, t2, k2⟩
  exact ⟨p.a, rfl, ⟨_, _, t2, h2.begun (by decide) t0 t1 (Nat.mod_lt _ (by decide)) hx hp, rfl, rfl, rfl, by simp [h4]⟩, k2⟩
theorem GX.wait (h : GX w g r mb K L ws ops sl al wr) {t : Int} {set : Nat} (t0 : 0 ≤ t) (t1 : t < 64) (s0 : set ≠ 0) (s1 : set < 18446744073709551616) (hne : bkts set 2 ≠ []) :
    Calls Try.prog 56 #[ptr g, .int .i64 t, .int .u64 set] wr fun e w' => ∃ a, e = .returned (.tuple #[ptr a, .int .i64 0]) ∧ GX w g r mb (K + 1) L ws (ops ++ [.wa t 0 0 (bkts set 2) 0]) sl (al ++ [a]) w' ∧ Keep (Out w L) wr w' := by
  obtain ⟨S, bo, h1, h2, rfl, rfl, rfl, h4⟩ := h.ex
  have hc := h1.call1x (s' := fun p : GPB => (S.waits t (bkts set 2), bo ++ [(.wa t 0 0 (bkts set 2) 0, p)])) (Φ := fun p e => e = .returned (.tuple #[ptr p.a, .int .i64 0])) (Q := Try.prog) (f := 56) (args := #[ptr g, .int .i64 t, .int .u64 set]) (by
    rintro A ⟨F, ml, hA⟩
    exact gpwait_ok hA h2 (by decide) (by decide) (by decide) t0 t1 s0 s1)
  refine hc.mono ?_
  rintro e w' ⟨p, rfl, t2, k2⟩
  exact ⟨p.a, rfl, ⟨_, _, t2, h2.waits t0 t1 hne (fun b hb => (mem_bkts.1 hb).1), rfl, rfl, rfl, by simp [h4]⟩, k2⟩
theorem GX.exit (h : GX w g r mb K L ws ops sl al wr) (hK : K ≤ 1000) {t : Int} {s : Nat} {x : GSl} {y : Int} (t0 : 0 ≤ t) (t1 : t < 64) (hx : sl[s]? = some x) (hp : x.ph = 3) (hy : ws[4 * x.b + 1 + x.sd]? = some y) :
    Calls Try.prog 58 #[ptr g, .int .i64 t, .int .i64 s] wr fun e w' => e = .returned (.tuple #[.int .u8 16, .int .i64 0]) ∧ GX w g r mb (K + 1) L (ws.set (4 * x.b + 1 + x.sd) (IntKind.u64.wrap (y + 18446744073709551615))) ops (sl.set s ⟨0, x.b, x.sd, x.ow⟩) al w' ∧ Keep (Out w L) wr w' := by
  obtain ⟨S, bo, h1, h2, rfl, rfl, rfl, h4⟩ := h.ex
  have hy' : S.ws[0 + 4 * x.b + 1 + x.sd]? = some y := by rw [Nat.zero_add]; exact hy
  have hc := h1.call1 (s' := (S.left 0 t s x y, bo)) (Φ := fun e _ => e = .returned (.tuple #[.int .u8 16, .int .i64 0])) (Q := Try.prog) (f := 58) (args := #[ptr g, .int .i64 t, .int .i64 s]) (by
    rintro A ⟨F, ml, hA⟩
    exact gpexit_ok hA h2 (by decide) (by decide) (by omega) t0 t1 hx hp hy')
  refine hc.mono ?_
  rintro e w' ⟨rfl, t2, k2⟩
  exact ⟨rfl, ⟨_, _, t2, h2.left hx hp, by simp only [GSt.left, Nat.zero_add], rfl, rfl, h4⟩, k2⟩
/-- Some of the engine. -/
theorem GX.mem (h : GX w g r mb K L ws ops sl al wr) (hK : K ≤ 1000) : ∃ F log, MemAt wr mb F ws log ∧ log.length ≤ 1000 := by
  obtain ⟨S, bo, h1, h2, rfl, rfl, rfl, h4⟩ := h.ex
  obtain ⟨A, F, ml, hA⟩ := h1.has1
  obtain ⟨G, hs⟩ := hA.sys
  exact ⟨G, S.log, hs.mem, by have := h2.llog; omega⟩
theorem GX.state (h : GX w g r mb K L ws ops sl al wr) (t : Int) (s : Nat) {x : GSl} (he : gsErr t s = 0) (hx : sl[s]? = some x) (hp : x.ph ≠ 3) : Calls Try.prog 58 #[ptr g, .int .i64 t, .int .i64 s] wr fun e w' => e = .returned (.tuple #[.int .u8 0, .int .i64 8]) ∧ wr = w' := by
  obtain ⟨S, bo, h1, h2, rfl, rfl, rfl, h4⟩ := h.ex
  obtain ⟨A, F, ml, hA⟩ := h1.has1
  exact gpexit_state hA h2 t s he hx hp
theorem GX.range (h : GX w g r mb K L ws ops sl al wr) (t s v : Int) (he : gsErr t s ≠ 0) : Calls Try.prog 54 #[ptr g, .int .i64 t, .int .i64 s, .int .i64 v] wr fun e w' => e = .returned (.tuple #[.pointer none, .int .i64 (gsErr t s)]) ∧ wr = w' := by
  obtain ⟨S, bo, h1, h2, rfl, rfl, rfl, h4⟩ := h.ex
  obtain ⟨A, F, ml, hA⟩ := h1.has1
  have hg : ∀ b, genErr t s v b = gsErr t s := fun b => by unfold genErr; rw [if_pos he]
  have := gpenter_err hA t s v (by rw [hg]; exact he)
  rw [hg] at this
  exact this
/-- A new engine. -/
theorem GX.new {F : Nat → Prop} {w1 w2 : World} (hk : Keep Nil w w1) (hm : MemAt w1 mb F [0, 0, 0, 0, 0, 0, 0, 0] []) (hf : Foot w Nil F) (hg : GNewAt w2 g r mb 0 2) (k2 : Keep Nil w1 w2) (l1 : w1.heap.size ≤ g) (l2 : w1.heap.size ≤ r) :
    GX w g r mb 0 Nil [0, 0, 0, 0, 0, 0, 0, 0] [] (List.replicate 64 ⟨0, 0, 0, 0⟩) [] w2 := by
  have nF : ∀ k : Nat, w1.heap.size ≤ k → ¬ F k := fun k h hF => by have := hm.lt k hF; omega
  have s1 := hk.size
  have him : IMap .i64 w2 r [] := ⟨#[], 0, hg.map, rfl, MapKept.stamped_empty 0⟩
  have emp : ∀ {s : Nat} {x : GSl}, (List.replicate 64 (⟨0, 0, 0, 0⟩ : GSl))[s]? = some x → x = ⟨0, 0, 0, 0⟩ := fun h => by
    rw [List.getElem?_replicate] at h
    split at h
    · exact (Option.some.inj h).symm
    · cases h
  refine ⟨⟨List.replicate 64 ⟨0, 0, 0, 0⟩, [0, 0, 0, 0, 0, 0, 0, 0], [], []⟩, [], ⟨⟨fun k => F k ∨ k = g ∨ k = r, fun _ => False, ⟨_, [], ObjsB.init ⟨F, hm.keep k2 (fun _ _ h => h), ⟨hg.head, him⟩, nF g l1, nF r l2, fun _ => Iff.rfl⟩, rfl, by simp [mkeys], fun k => ?_⟩, fun k h => h, fun k hk => ⟨fun h => h, fun h => h, ?_⟩, fun k hk => hk.elim⟩, fun k hk => hk.elim, hk.trans k2 (fun _ _ h => h)⟩, ⟨by simp, by simp, fun x hx => ?_, fun b hb => ⟨0, by omega, ?_⟩, fun i o b ho => by simp at ho, by simp, fun i o ho => by simp at ho, fun s x hx => ?_⟩, rfl, rfl, rfl, rfl⟩
  · show none = _
    split
    · rfl
    · cases hx : (List.replicate 64 (⟨0, 0, 0, 0⟩ : GSl))[k.toNat]? with
      | none => rfl
      | some x => rw [emp hx]; rfl
  · rcases hk with e | e | e
    · exact (hf k e).elim (fun e => e.elim) id
    · omega
    · omega
  · simp at hx; omega
  · have : b = 0 ∨ b = 1 := by omega
    rcases this with rfl | rfl <;> rfl
  · rw [emp hx]; exact ⟨by simp, by simp, by simp, fun h => absurd rfl h⟩
end
end Go.Proofs.Ytihgfklajhhikaa
