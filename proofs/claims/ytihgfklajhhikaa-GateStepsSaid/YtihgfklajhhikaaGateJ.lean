/- GateSteps: both engines side by side. -/
import Derived.Test.YtihgfklajhhikaaGateStepW
set_option linter.unusedVariables false
set_option linter.unusedSimpArgs false
namespace Go.Lf
theorem GStep.kinds {B t : Nat} {S S' : GSt} {pc : Int} {d : Bool} (h : GStep B S t S' pc d) : S'.ops.map GOp.kind = S.ops.map GOp.kind := by
  have key : ∀ (o o' : GOp), S.ops[t]? = some o → GOp.kind o' = GOp.kind o → (S.ops.set t o').map GOp.kind = S.ops.map GOp.kind := fun o o' ho hk => by
    rw [List.map_set, hk]
    exact set_eq (by simp [ho])
  cases h with
  | choose h hy hx => exact key _ _ h rfl
  | count h hy hx => exact key _ _ h rfl
  | idle h => rfl
  | wait h hs => exact key _ _ h rfl
  | over h => rfl
theorem GStep.op {B t : Nat} {S S' : GSt} {pc : Int} {d : Bool} (h : GStep B S t S' pc d) : ∃ o', S'.ops[t]? = some o' := by
  cases h with
  | choose h hy hx => exact ⟨_, put_self h _⟩
  | count h hy hx => exact ⟨_, put_self h _⟩
  | idle h => exact ⟨_, h⟩
  | wait h hs => exact ⟨_, put_self h _⟩
  | over h => exact ⟨_, h⟩
end Go.Lf
namespace Go.Proofs.Ytihgfklajhhikaa
open Go.RowKit Go.Lf
/-- An operation's row: the two blocks, and whether it waits. -/
def opCells (p : Nat × Nat × Bool) : List Value :=
  if p.2.2 then [.pointer none, .pointer none, .pointer (some ⟨p.1, 0, none⟩), .pointer (some ⟨p.2.1, 0, none⟩)] else [.pointer (some ⟨p.1, 0, none⟩), .pointer (some ⟨p.2.1, 0, none⟩), .pointer none, .pointer none]
theorem opCells_len (p : Nat × Nat × Bool) : (opCells p).length = 4 := by unfold opCells; split <;> rfl
def opsCells (l : List (Nat × Nat × Bool)) : List Value := l.flatMap opCells
theorem opsCells_snoc (l : List (Nat × Nat × Bool)) (p : Nat × Nat × Bool) : opsCells (l ++ [p]) = opsCells l ++ opCells p := by simp [opsCells]
/-- Between two events: rows are the operations' blocks. -/
structure GJ (w : World) (g sm mb h rb : Nat) (b0 n K : Nat) (L : Nat → Prop) (S : GSt) (rows : List (Nat × Nat × Bool)) (wr : World) : Prop where
  two : ∃ pb rq, Two (GLies g sm mb b0 n) (GRLies h rb b0 n) w L (S, pb) (S, rq) wr ∧ pb.map (fun o => o.2.a) = rows.map (·.1) ∧ rq.map (fun o => o.2.a) = rows.map (·.2.1)
  ok : S.ok b0 n K
  kinds : rows.map (·.2.2) = S.ops.map GOp.kind
section
variable {w wr : World} {g sm mb h rb : Nat} {b0 n K : Nat} {L : Nat → Prop} {S : GSt} {rows : List (Nat × Nat × Bool)}
theorem GJ.len (hJ : GJ w g sm mb h rb b0 n K L S rows wr) : rows.length = S.ops.length := by
  have := congrArg List.length hJ.kinds
  simpa using this
theorem GJ.own (hJ : GJ w g sm mb h rb b0 n K L S rows wr) : Keep Nil w wr := by
  obtain ⟨pb, rq, t, -⟩ := hJ.two
  exact t.own
theorem GJ.quiet (hJ : GJ w g sm mb h rb b0 n K L S rows wr) {w' : World} (hk : Keep Nil wr w') : GJ w g sm mb h rb b0 n K L S rows w' := by
  obtain ⟨⟨pb, rq, t, e1, e2⟩, h2, h3⟩ := hJ
  exact ⟨⟨pb, rq, t.quiet hk, e1, e2⟩, h2, h3⟩
theorem GJ.mono (hJ : GJ w g sm mb h rb b0 n K L S rows wr) {K' : Nat} (hK : K ≤ K') : GJ w g sm mb h rb b0 n K' L S rows wr := ⟨hJ.two, hJ.ok.mono hK, hJ.kinds⟩
theorem GJ.loc (hJ : GJ w g sm mb h rb b0 n K L S rows wr) {w' : World} (hk : Keep L wr w') {L' : Nat → Prop} (hL : ∀ k, L' k → L k ∨ (wr.heap.size ≤ k ∧ k < w'.heap.size)) : GJ w g sm mb h rb b0 n K L' S rows w' := by
  obtain ⟨⟨pb, rq, t, e1, e2⟩, h2, h3⟩ := hJ
  exact ⟨⟨pb, rq, t.loc hk hL, e1, e2⟩, h2, h3⟩
/-- What stands behind a step of an operation. -/
def GJTo (w : World) (g sm mb h rb : Nat) (b0 n K : Nat) (L : Nat → Prop) (rows : List (Nat × Nat × Bool)) (wr w' : World) : Prop :=
  ∃ S', GJ w g sm mb h rb b0 n K L S' rows w' ∧ Keep (Out w L) wr w'
/-- A row's operation, on a side. -/
theorem side_at {α : Type} {f : α → Nat} {bo : List (GOp × α)} {l : List Nat} {S : GSt} {i a : Nat} {o : GOp} (hops : S.ops = bo.map Prod.fst) (hl : bo.map (fun o => f o.2) = l) (ha : l[i]? = some a) (ho : S.ops[i]? = some o) : ∃ p, bo[i]? = some (o, p) ∧ f p = a := by
  rw [hops] at ho
  obtain ⟨p, hp⟩ := fst_at ho
  refine ⟨p, hp, ?_⟩
  rw [← hl] at ha
  simpa [hp] using ha
set_option maxRecDepth 100000 in
theorem gjstep (hJ : GJ w g sm mb h rb b0 n K L S rows wr) (hb0 : b0 ≤ 20) (hn : n ≤ 9) (hK : K ≤ 1000) {t : Nat} {p : Nat × Nat × Bool} (hp : rows[t]? = some p) :
    Calls Try.prog 63 #[.agg (opCells p).toArray] wr fun e w' => e = .returned (.bool true) ∧ GJTo w g sm mb h rb b0 n (K + 1) L rows wr w' := by
  obtain ⟨a, b, kd⟩ := p
  have ha : (rows.map (·.1))[t]? = some a := by simp [hp]
  have hb : (rows.map (·.2.1))[t]? = some b := by simp [hp]
  obtain ⟨o, ho⟩ : ∃ o, S.ops[t]? = some o := ⟨_, List.getElem?_eq_getElem (by have := (List.getElem?_eq_some_iff.1 hp).1; have := hJ.len; omega)⟩
  have hkd : GOp.kind o = kd := by
    have h1 : (S.ops.map GOp.kind)[t]? = some kd := by rw [← hJ.kinds]; simp [hp]
    simpa [ho] using h1
  obtain ⟨S', pc, d, hst⟩ := gstep_ex hJ.ok ho
  have hok' := gstep_ok hJ.ok hst
  obtain ⟨o', ho'⟩ := Go.Lf.GStep.op hst
  have hkk := Go.Lf.GStep.kinds hst
  have hko : GOp.kind o' = GOp.kind o := by
    have h1 : (S'.ops.map GOp.kind)[t]? = (S.ops.map GOp.kind)[t]? := by rw [hkk]
    simpa [ho, ho'] using h1
  -- the boxed row
  obtain ⟨cs, hcs⟩ : ∃ cs, cs = (opCells (a, b, kd)).toArray := ⟨_, rfl⟩
  have hx := heap_alloc_new wr (.cells cs 128)
  have J1 : GJ w g sm mb h rb b0 n K (fun k => L k ∨ k = wr.heap.size) S rows (wr.alloc (.cells cs 128)) := hJ.loc ((Keep.refl L wr).alloc _) (fun k hk => hk.elim .inl (fun e => .inr (by simp; omega)))
  obtain ⟨W, hW⟩ : ∃ W, W = wr.alloc (.cells cs 128) := ⟨_, rfl⟩
  rw [← hW] at J1 hx
  have kW : Keep Nil wr W := by rw [hW]; exact (Keep.refl Nil wr).alloc _
  obtain ⟨pb, rq, T1, m1, m2⟩ := J1.two
  obtain ⟨A, hA⟩ := T1.has1
  obtain ⟨B, hB⟩ := T1.has2
  -- what stands behind the program's step, and behind both
  let L1 : Nat → Prop := fun k => L k ∨ k = wr.heap.size
  let P : World → Prop := fun w2 => ∃ pb', Two (GLies g sm mb b0 n) (GRLies h rb b0 n) w L1 (S', pb') (S, rq) w2 ∧ pb'.map (fun o => o.2.a) = rows.map (·.1) ∧ Keep (Out w L1) W w2
  let Q : World → Prop := fun w3 => ∃ pb' rq', Two (GLies g sm mb b0 n) (GRLies h rb b0 n) w L1 (S', pb') (S', rq') w3 ∧ pb'.map (fun o => o.2.a) = rows.map (·.1) ∧ rq'.map (fun o => o.2.a) = rows.map (·.2.1) ∧ Keep (Out w L1) W w3
  have fB0 : Calls Try.prog (GOp.rnext o) #[.pointer (some ⟨b, 0, none⟩)] W fun e w' => e = .returned (.int .u8 (GOp.pc o)) ∧ W = w' := by
    obtain ⟨F, hF⟩ := hB
    obtain ⟨q, hq, rfl⟩ := side_at (f := GRB.a) hF.ops m2 hb ho
    exact grnext hF hq
  have fA0 : Calls Try.prog (GOp.pnext o) #[.pointer (some ⟨a, 0, none⟩)] W fun e w' => e = .returned (.int .u8 (GOp.pc o)) ∧ Keep Nil W w' := by
    obtain ⟨F, ml, hF⟩ := hA
    obtain ⟨q, hq, rfl⟩ := side_at (f := GPB.a) hF.ops m1 ha ho
    exact (gpnext hF hq).mono fun e w' ⟨h1, h2⟩ => ⟨h1, h2 ▸ Keep.refl _ _⟩
  have fA : ∀ w1, Keep Nil W w1 → Calls Try.prog (GOp.pstep o) #[.pointer (some ⟨a, 0, none⟩)] w1 fun e w2 => e = .returned (.tuple #[.int .u8 pc, .bool d]) ∧ P w2 := fun w1 k1 => by
    refine ((T1.quiet k1).call1x (Φ := fun pb' e => e = .returned (.tuple #[.int .u8 pc, .bool d]) ∧ pb'.map (fun o => o.2.a) = pb.map (fun o => o.2.a)) (s' := fun pb' => (S', pb')) (fun A' hA' => ?_)).mono fun e w2 ⟨pb', ⟨h1, h1'⟩, h2, h3⟩ => ⟨h1, pb', h2, h1'.trans m1, (k1.mono fun _ _ h => h.elim).trans h3 (fun _ _ h => h)⟩
    obtain ⟨F, ml, hF⟩ := hA'
    obtain ⟨q, hq, rfl⟩ := side_at (f := GPB.a) hF.ops m1 ha ho
    exact gpstep_any hF hJ.ok hb0 hn (by omega) hq hst
  have fB : ∀ w2, P w2 → Calls Try.prog (GOp.rstep o) #[.pointer (some ⟨b, 0, none⟩)] w2 fun e w3 => e = .returned (.tuple #[.int .u8 pc, .bool d]) ∧ Q w3 := fun w2 ⟨pb', t2, e2, k2⟩ => by
    refine (t2.call2x (Φ := fun rq' e => e = .returned (.tuple #[.int .u8 pc, .bool d]) ∧ rq'.map (fun o => o.2.a) = rq.map (fun o => o.2.a)) (r' := fun rq' => (S', rq')) (fun B' hB' => ?_)).mono fun e w3 ⟨rq', ⟨h1, h1'⟩, h2, h3⟩ => ⟨h1, pb', rq', h2, e2, h1'.trans m2, k2.trans h3 (fun _ _ h => h)⟩
    obtain ⟨F, hF⟩ := hB'
    obtain ⟨q, hq, rfl⟩ := side_at (f := GRB.a) hF.ops m2 hb ho
    exact grstep_any hF hJ.ok hb0 hn (by omega) hq hst
  have fQk : ∀ w3 w4, Q w3 → Keep Nil w3 w4 → Q w4 := fun w3 w4 ⟨pb', rq', t, e1, e2, k⟩ hk => ⟨pb', rq', t.quiet hk, e1, e2, k.trans hk (fun _ _ h => h.elim)⟩
  have fA2 : ∀ w3, Q w3 → Calls Try.prog (GOp.pnext o') #[.pointer (some ⟨a, 0, none⟩)] w3 fun e w' => e = .returned (.int .u8 (GOp.pc o')) ∧ Keep Nil w3 w' := fun w3 ⟨pb', rq', t, e1, e2, k⟩ => by
    obtain ⟨A', F, ml, hF⟩ := t.has1
    obtain ⟨q, hq, rfl⟩ := side_at (f := GPB.a) hF.ops e1 ha ho'
    exact (gpnext hF hq).mono fun e w' ⟨h1, h2⟩ => ⟨h1, h2 ▸ Keep.refl _ _⟩
  have fB2 : ∀ w3, Q w3 → Calls Try.prog (GOp.rnext o') #[.pointer (some ⟨b, 0, none⟩)] w3 fun e w' => e = .returned (.int .u8 (GOp.pc o')) ∧ w3 = w' := fun w3 ⟨pb', rq', t, e1, e2, k⟩ => by
    obtain ⟨B', F, hF⟩ := t.has2
    obtain ⟨q, hq, rfl⟩ := side_at (f := GRB.a) hF.ops e2 hb ho'
    exact grnext hF hq
  have fP : ∀ w2, P w2 → w2.heap[wr.heap.size]? = some (.cells cs 128 (0, 0)) := fun w2 ⟨pb', t, e, k⟩ => k.loc hx (.inr rfl)
  have fQ : ∀ w3, Q w3 → w3.heap[wr.heap.size]? = some (.cells cs 128 (0, 0)) := fun w3 ⟨pb', rq', t, e1, e2, k⟩ => k.loc hx (.inr rfl)
  have fin : ∀ w', Q w' → GJTo w g sm mb h rb b0 n (K + 1) L rows wr w' := fun w' ⟨pb', rq', t, e1, e2, k⟩ =>
    ⟨S', ⟨⟨pb', rq', t.less (fun k hk => .inl hk), e1, e2⟩, hok', by rw [hkk]; exact hJ.kinds⟩, (kW.mono fun _ _ h => h.elim).trans k (fun k hk hO => ⟨fun hl => hO.1 (.inl hl), hO.2⟩)⟩
  subst hkd
  cases o with
  | en th s b' c dn =>
    obtain ⟨th', s', b'', c', dn', rfl⟩ : ∃ th' s' b'' c' dn', o' = .en th' s' b'' c' dn' := by
      cases o' with
      | en a b c d e => exact ⟨_, _, _, _, _, rfl⟩
      | wa => cases hko
    have cc : cs = #[.pointer (some ⟨a, 0, none⟩), .pointer (some ⟨b, 0, none⟩), .pointer none, .pointer none] := hcs
    have hS := opstep_en (wr := wr) (a := a) (b := b) (p0 := GOp.pc (.en th s b' c dn)) (p2 := GOp.pc (.en th' s' b'' c' dn')) (pc := pc) (d := d) P Q
    rw [← cc, ← hW] at hS
    have := hS fB0 fA0 fA (fun w2 hp => by rw [cell_of (fP w2 hp), cc]; rfl) fB (fun w3 hq => by rw [cell_of (fQ w3 hq), cell_of (fQ w3 hq), cc]; exact ⟨rfl, rfl⟩) fQk fA2 fB2
    rw [cc] at this
    exact this.mono fun e w' ⟨h1, h2⟩ => ⟨h1, fin w' h2⟩
  | wa th st side left f =>
    obtain ⟨th', st', side', left', f', rfl⟩ : ∃ th' st' side' left' f', o' = .wa th' st' side' left' f' := by
      cases o' with
      | en => cases hko
      | wa a b c d e => exact ⟨_, _, _, _, _, rfl⟩
    have cc : cs = #[.pointer none, .pointer none, .pointer (some ⟨a, 0, none⟩), .pointer (some ⟨b, 0, none⟩)] := hcs
    have hS := opstep_wa (wr := wr) (a := a) (b := b) (p0 := GOp.pc (.wa th st side left f)) (p2 := GOp.pc (.wa th' st' side' left' f')) (pc := pc) (d := d) P Q
    rw [← cc, ← hW] at hS
    have := hS fB0 fA0 fA (fun w2 hp => by rw [cell_of (fP w2 hp), cc]; rfl) fB (fun w3 hq => by rw [cell_of (fQ w3 hq), cell_of (fQ w3 hq), cc]; exact ⟨rfl, rfl⟩) fQk fA2 fB2
    rw [cc] at this
    exact this.mono fun e w' ⟨h1, h2⟩ => ⟨h1, fin w' h2⟩

/-! Beginnings and exits. -/
/-- What is refused by both, with the same error, at the world at hand. -/
def BothNo (wr : World) (f1 f2 : FuncId) (args1 args2 : Array Value) (r : Int → Value) : Prop :=
  ∃ e0 : Int, e0 ≠ 0 ∧ (Calls Try.prog f1 args1 wr fun e w' => e = .returned (r e0) ∧ wr = w') ∧ (Calls Try.prog f2 args2 wr fun e w' => e = .returned (r e0) ∧ wr = w')
theorem gjenter_cases (hJ : GJ w g sm mb h rb b0 n K L S rows wr) (t s v : Int) :
    BothNo wr 54 59 #[.pointer (some ⟨g, 0, none⟩), .int .i64 t, .int .i64 s, .int .i64 v] #[.pointer (some ⟨h, 0, none⟩), .int .i64 t, .int .i64 s, .int .i64 v] (fun e => .tuple #[.pointer none, .int .i64 e]) ∨
    (0 ≤ t ∧ t < 64 ∧ 0 ≤ v ∧ v < 64 ∧ ∃ i : Nat, s = i ∧ ∃ x, S.sl[i]? = some x ∧ x.ph = 0) := by
  obtain ⟨pb, rq, T, m1, m2⟩ := hJ.two
  obtain ⟨A, F, ml, hP⟩ := T.has1
  obtain ⟨B, G, hR⟩ := T.has2
  change GPAt _ _ _ _ _ _ _ S pb _ _ at hP
  change GRAt _ _ _ _ _ _ S rq _ at hR
  obtain ⟨G', hs, -⟩ := hR.sys
  have ls := hJ.ok.ls
  have ge : ∀ b, gckE t s v b = genErr t s v b := fun b => by
    unfold gckE genErr gsErr
    by_cases h1 : t < 0 ∨ 64 ≤ t
    · rw [if_pos h1, if_pos h1, if_pos (by decide)]
    · rw [if_neg h1, if_neg h1]
      by_cases h2 : s < 0 ∨ 64 ≤ s
      · rw [if_pos h2, if_pos h2, if_pos (by decide)]
      · rw [if_neg h2, if_neg h2]; simp
  by_cases hs0 : s < 0 ∨ 64 ≤ s
  · left
    have hne : ∀ b, gckE t s v b ≠ 0 := fun b => by
      unfold gckE; split
      · decide
      · first | decide | (rw [if_pos hs0]; decide)
    have hlk : glk S.sl pb s = none := glk_none (by omega)
    refine ⟨gckE t s v false, hne false, ?_, rgenter_out hs.eng t s v hs0⟩
    have := gpenter_err hP t s v (by rw [← ge]; exact hne _)
    rw [hlk, ← ge] at this
    exact this
  · obtain ⟨i, rfl⟩ : ∃ i : Nat, s = i := ⟨s.toNat, by omega⟩
    obtain ⟨x, hx⟩ : ∃ x, S.sl[i]? = some x := ⟨_, List.getElem?_eq_getElem (by omega)⟩
    obtain ⟨z1, z2, z3, z4⟩ := hJ.ok.sls i x hx
    have hbg : (glk S.sl pb (i : Int)).isSome = x.r.bg := by
      rw [glk_at hx]
      by_cases e : x.ph = 0
      · rw [if_pos e]; simp [GSl.r, e]
      · rw [if_neg e]
        obtain ⟨b1, t', c, dn, c2, -⟩ := z4 e
        obtain ⟨p, hbo, -⟩ := hP.at c2
        rw [hbo]; simp [GSl.r, e]
    by_cases he : gckE t i v x.r.bg = 0
    · right
      unfold gckE at he
      by_cases h1 : t < 0 ∨ 64 ≤ t
      · rw [if_pos h1] at he; cases he
      rw [if_neg h1, if_neg hs0] at he
      by_cases h2 : v < 0 ∨ 64 ≤ v
      · rw [if_pos h2] at he; cases he
      rw [if_neg h2] at he
      refine ⟨by omega, by omega, by omega, by omega, i, rfl, x, hx, ?_⟩
      refine Classical.byContradiction fun hph => ?_
      rw [if_pos (by simp [GSl.r, hph])] at he
      cases he
    · left
      refine ⟨gckE t i v x.r.bg, he, ?_, rgenter_err hs.eng t v (r_at hx) he⟩
      have := gpenter_err hP t i v (by rw [← ge, hbg]; exact he)
      rw [hbg, ← ge] at this
      exact this
/-- Entering, first by the program, then by the reference. -/
theorem gjenter_ok (hJ : GJ w g sm mb h rb b0 n K L S rows wr) (hb0 : b0 ≤ 20) (hn0 : 1 ≤ n) (hn : n ≤ 9) {t : Int} {i v : Nat} {x : GSl} (t0 : 0 ≤ t) (t1 : t < 64) (v1 : v < 64) (hx : S.sl[i]? = some x) (hp : x.ph = 0) :
    Calls Try.prog 54 #[.pointer (some ⟨g, 0, none⟩), .int .i64 t, .int .i64 i, .int .i64 v] wr fun e w1 => ∃ ea, e = .returned (.tuple #[.pointer (some ⟨ea, 0, none⟩), .int .i64 0]) ∧ Keep (Out w L) wr w1 ∧
      Calls Try.prog 59 #[.pointer (some ⟨h, 0, none⟩), .int .i64 t, .int .i64 i, .int .i64 v] w1 fun e w2 => ∃ eb, e = .returned (.tuple #[.pointer (some ⟨eb, 0, none⟩), .int .i64 0]) ∧ GJ w g sm mb h rb b0 n (K + 1) L (S.begun t i (v % n) x) (rows ++ [(ea, eb, false)]) w2 ∧ Keep (Out w L) wr w2 := by
  obtain ⟨pb, rq, T, m1, m2⟩ := hJ.two
  refine (T.call1x (Φ := fun (p : GPB) e => e = .returned (.tuple #[.pointer (some ⟨p.a, 0, none⟩), .int .i64 0])) (s' := fun p => (S.begun t i (v % n) x, pb ++ [(.en t i (v % n) none false, p)])) ?_).mono ?_
  · rintro A ⟨F, ml, hP⟩
    exact gpenter_ok hP hJ.ok hb0 hn0 hn t0 t1 v1 hx hp
  · rintro e w1 ⟨p, rfl, T2, k1⟩
    refine ⟨p.a, rfl, k1, ?_⟩
    refine (T2.call2x (Φ := fun (p : GRB) e => e = .returned (.tuple #[.pointer (some ⟨p.a, 0, none⟩), .int .i64 0])) (r' := fun q => (S.begun t i (v % n) x, rq ++ [(.en t i (v % n) none false, q)])) ?_).mono ?_
    · rintro B ⟨G, hR⟩
      exact grenter_ok hR hJ.ok hn0 hn t0 t1 v1 hx hp
    · rintro e w2 ⟨q, rfl, T3, k2⟩
      refine ⟨q.a, rfl, ⟨⟨_, _, T3, by simp [m1], by simp [m2]⟩, hJ.ok.begun (by omega) t0 t1 (Nat.mod_lt _ (by omega)) hx hp, ?_⟩, k1.trans k2 (fun _ _ h => h)⟩
      simp [GSt.begun, hJ.kinds, GOp.kind]
theorem gjwait_cases (t x : Int) :
    BothNo wr 56 61 #[.pointer (some ⟨g, 0, none⟩), .int .i64 t, .int .u64 x] #[.pointer (some ⟨h, 0, none⟩), .int .i64 t, .int .u64 x] (fun e => .tuple #[.pointer none, .int .i64 e]) ∨ (0 ≤ t ∧ t < 64 ∧ x ≠ 0) := by
  by_cases hx : t < 0 ∨ 64 ≤ t ∨ x = 0
  · exact .inl ⟨2, by decide, gwait_err g t x hx, rgwait_err h t x hx⟩
  · exact .inr ⟨by omega, by omega, by omega⟩
theorem bkts_some {s n : Nat} (hs : s < 18446744073709551616) (h0 : s ≠ 0) (hn : 1 ≤ n) : bkts s n ≠ [] := by
  obtain ⟨v, hv⟩ : ∃ v, s.testBit v = true := by
    refine Classical.byContradiction fun h => h0 ?_
    apply Nat.eq_of_testBit_eq
    intro i
    rw [Nat.zero_testBit]
    cases hb : s.testBit i with
    | false => rfl
    | true => exact absurd ⟨i, hb⟩ h
  have hv64 : v < 64 := by
    refine Classical.byContradiction fun h => ?_
    rw [Nat.testBit_lt_two_pow (Nat.lt_of_lt_of_le hs (Nat.pow_le_pow_right (n := 2) (by decide) (show 64 ≤ v by omega)))] at hv
    cases hv
  intro e
  have : v % n ∈ bkts s n := mem_bkts.2 ⟨Nat.mod_lt _ (by omega), inB_iff.2 ⟨v, hv64, rfl, hv⟩⟩
  rw [e] at this
  cases this
theorem gjwait_ok (hJ : GJ w g sm mb h rb b0 n K L S rows wr) (hb0 : b0 ≤ 20) (hn0 : 1 ≤ n) (hn : n ≤ 9) {t : Int} {set : Nat} (t0 : 0 ≤ t) (t1 : t < 64) (s0 : set ≠ 0) (s1 : set < 18446744073709551616) :
    Calls Try.prog 56 #[.pointer (some ⟨g, 0, none⟩), .int .i64 t, .int .u64 set] wr fun e w1 => ∃ ea, e = .returned (.tuple #[.pointer (some ⟨ea, 0, none⟩), .int .i64 0]) ∧ Keep (Out w L) wr w1 ∧
      Calls Try.prog 61 #[.pointer (some ⟨h, 0, none⟩), .int .i64 t, .int .u64 set] w1 fun e w2 => ∃ eb, e = .returned (.tuple #[.pointer (some ⟨eb, 0, none⟩), .int .i64 0]) ∧ GJ w g sm mb h rb b0 n (K + 1) L (S.waits t (bkts set n)) (rows ++ [(ea, eb, true)]) w2 ∧ Keep (Out w L) wr w2 := by
  have hne := bkts_some s1 s0 hn0
  obtain ⟨pb, rq, T, m1, m2⟩ := hJ.two
  refine (T.call1x (Φ := fun (p : GPB) e => e = .returned (.tuple #[.pointer (some ⟨p.a, 0, none⟩), .int .i64 0])) (s' := fun p => (S.waits t (bkts set n), pb ++ [(.wa t 0 0 (bkts set n) 0, p)])) ?_).mono ?_
  · rintro A ⟨F, ml, hP⟩
    exact gpwait_ok hP hJ.ok hb0 hn0 hn t0 t1 s0 s1
  · rintro e w1 ⟨p, rfl, T2, k1⟩
    refine ⟨p.a, rfl, k1, ?_⟩
    refine (T2.call2x (Φ := fun (p : GRB) e => e = .returned (.tuple #[.pointer (some ⟨p.a, 0, none⟩), .int .i64 0])) (r' := fun q => (S.waits t (bkts set n), rq ++ [(.wa t 0 0 (bkts set n) 0, q)])) ?_).mono ?_
    · rintro B ⟨G, hR⟩
      exact grwait_ok hR hn0 hn t0 t1 s0 s1 hne
    · rintro e w2 ⟨q, rfl, T3, k2⟩
      refine ⟨q.a, rfl, ⟨⟨_, _, T3, by simp [m1], by simp [m2]⟩, hJ.ok.waits t0 t1 hne (fun b hb => (mem_bkts.1 hb).1), ?_⟩, k1.trans k2 (fun _ _ h => h)⟩
      simp [GSt.waits, hJ.kinds, GOp.kind]
theorem gjexit_cases (hJ : GJ w g sm mb h rb b0 n K L S rows wr) (t s : Int) :
    BothNo wr 58 60 #[.pointer (some ⟨g, 0, none⟩), .int .i64 t, .int .i64 s] #[.pointer (some ⟨h, 0, none⟩), .int .i64 t, .int .i64 s] (fun e => .tuple #[.int .u8 0, .int .i64 e]) ∨
    (0 ≤ t ∧ t < 64 ∧ ∃ i : Nat, s = i ∧ ∃ x, S.sl[i]? = some x ∧ x.ph = 3) := by
  obtain ⟨pb, rq, T, m1, m2⟩ := hJ.two
  obtain ⟨A, F, ml, hP⟩ := T.has1
  obtain ⟨B, G, hR⟩ := T.has2
  change GPAt _ _ _ _ _ _ _ S pb _ _ at hP
  change GRAt _ _ _ _ _ _ S rq _ at hR
  obtain ⟨G', hs, -⟩ := hR.sys
  have ls := hJ.ok.ls
  by_cases ht : t < 0 ∨ 64 ≤ t
  · have he : gsErr t s = 2 := if_pos ht
    have := gpexit_err hP t s (by rw [he]; decide)
    rw [he] at this
    exact .inl ⟨2, by decide, this, rgexit_thread h t s ht⟩
  by_cases hs0 : s < 0 ∨ 64 ≤ s
  · have he : gsErr t s = 3 := (if_neg ht).trans (if_pos hs0)
    have := gpexit_err hP t s (by rw [he]; decide)
    rw [he] at this
    exact .inl ⟨3, by decide, this, rgexit_slot h (by omega) (by omega) s hs0⟩
  have he : gsErr t s = 0 := (if_neg ht).trans (if_neg hs0)
  obtain ⟨i, rfl⟩ : ∃ i : Nat, s = i := ⟨s.toNat, by omega⟩
  obtain ⟨x, hx⟩ : ∃ x, S.sl[i]? = some x := ⟨_, List.getElem?_eq_getElem (by omega)⟩
  by_cases h3 : x.ph = 3
  · exact .inr ⟨by omega, by omega, i, rfl, x, hx, h3⟩
  · exact .inl ⟨8, by decide, gpexit_state hP hJ.ok t i he hx h3, rgexit_state hs.eng (by omega) (by omega) (r_at hx) (by simp [GSl.r, h3])⟩
theorem gjexit_ok (hJ : GJ w g sm mb h rb b0 n K L S rows wr) (hb0 : b0 ≤ 20) (hn : n ≤ 9) (hK : K ≤ 1000) {t : Int} {i : Nat} {x : GSl} (t0 : 0 ≤ t) (t1 : t < 64) (hx : S.sl[i]? = some x) (hp : x.ph = 3) :
    Calls Try.prog 58 #[.pointer (some ⟨g, 0, none⟩), .int .i64 t, .int .i64 i] wr fun e w1 => e = .returned (.tuple #[.int .u8 16, .int .i64 0]) ∧ Keep (Out w L) wr w1 ∧
      Calls Try.prog 60 #[.pointer (some ⟨h, 0, none⟩), .int .i64 t, .int .i64 i] w1 fun e w2 => e = .returned (.tuple #[.int .u8 16, .int .i64 0]) ∧ GJTo w g sm mb h rb b0 n (K + 1) L rows wr w2 := by
  have lw := hJ.ok.lw
  obtain ⟨z1, z2, z3, z4⟩ := hJ.ok.sls i x hx
  have zb := (z4 (by omega)).1
  obtain ⟨y, hy⟩ : ∃ y, S.ws[b0 + 4 * x.b + 1 + x.sd]? = some y := ⟨_, List.getElem?_eq_getElem (by omega)⟩
  obtain ⟨pb, rq, T, m1, m2⟩ := hJ.two
  refine (T.call1 (s' := (S.left b0 t i x y, pb)) (Φ := fun e _ => e = .returned (.tuple #[.int .u8 16, .int .i64 0])) ?_).mono ?_
  · rintro A ⟨F, ml, hP⟩
    exact gpexit_ok hP hJ.ok hb0 hn (by omega) t0 t1 hx hp hy
  · rintro e w1 ⟨rfl, h2, k1⟩
    refine ⟨rfl, k1, ?_⟩
    refine (h2.call2 (r' := (S.left b0 t i x y, rq)) (Φ := fun e _ => e = .returned (.tuple #[.int .u8 16, .int .i64 0])) ?_).mono ?_
    · rintro B ⟨G, hR⟩
      exact grexit_ok hR hJ.ok hb0 hn (by omega) t0 t1 hx hp hy
    · rintro e w2 ⟨rfl, h3, k2⟩
      exact ⟨rfl, _, ⟨⟨pb, rq, h3, m1, m2⟩, hJ.ok.left hx hp, hJ.kinds⟩, k1.trans k2 (fun _ _ h => h)⟩
/-- Open by both returns the same list. -/
theorem gjopen (hJ : GJ w g sm mb h rb b0 n K L S rows wr) (hn : n ≤ 9) :
    Calls Try.prog 22 #[.pointer (some ⟨g, 0, none⟩)] wr fun e w' => ∃ (l : List Int) (v1 : Value), e = .returned v1 ∧ Rd w' 1 v1 l.length (l.map (Value.int .i64)) ∧ Keep Nil wr w' ∧ l.length ≤ 64 ∧
      ∀ w'', Keep Nil w' w'' → Calls Try.prog 64 #[.pointer (some ⟨h, 0, none⟩)] w'' fun e w3 => ∃ v2, e = .returned v2 ∧ Rd w3 1 v2 l.length (l.map (Value.int .i64)) ∧ Keep Nil w'' w3 := by
  obtain ⟨pb, rq, T, m1, m2⟩ := hJ.two
  obtain ⟨A, F, ml, hP⟩ := T.has1
  change GPAt _ _ _ _ _ _ _ S pb _ _ at hP
  refine (gpopen hP hJ.ok).mono ?_
  rintro e w' ⟨v1, rfl, ho, hk⟩
  have el : (ints (openTo (gIn S) 64)).length = (openTo (gIn S) 64).length := by simp [ints]
  refine ⟨ints (openTo (gIn S) 64), v1, rfl, by rw [el]; exact ho, hk, by rw [el]; exact openTo_len _ _, fun w'' hk2 => ?_⟩
  obtain ⟨B, G, hR⟩ := ((T.quiet hk).quiet hk2).has2
  change GRAt _ _ _ _ _ _ S rq _ at hR
  refine (gropen hR).mono ?_
  rintro e w3 ⟨v2, rfl, ho2, hk3⟩
  exact ⟨v2, rfl, by rw [el]; exact ho2, hk3⟩
end
end Go.Proofs.Ytihgfklajhhikaa
