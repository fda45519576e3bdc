/- EachSteps: both engines side by side. -/
import Derived.Test.YtihgfklajhhikaaEachStepW
set_option linter.unusedVariables false
set_option linter.unusedSimpArgs false
namespace Go.Proofs.Ytihgfklajhhikaa
open Go.RowKit Go.Lf
/-- An operation's row: the two blocks, and whether it waits. -/
def opCells (p : Nat × Nat × Bool) : List Value :=
  if p.2.2 then [.pointer none, .pointer none, .pointer (some ⟨p.1, 0, none⟩), .pointer (some ⟨p.2.1, 0, none⟩)] else [.pointer (some ⟨p.1, 0, none⟩), .pointer (some ⟨p.2.1, 0, none⟩), .pointer none, .pointer none]
theorem opCells_len (p : Nat × Nat × Bool) : (opCells p).length = 4 := by unfold opCells; split <;> rfl
def opsCells (l : List (Nat × Nat × Bool)) : List Value := l.flatMap opCells
theorem opsCells_snoc (l : List (Nat × Nat × Bool)) (p : Nat × Nat × Bool) : opsCells (l ++ [p]) = opsCells l ++ opCells p := by simp [opsCells]
def EOp.kind : EOp → Bool
  | .en _ _ _ _ => false
  | .wa _ _ _ => true
theorem EStep.kinds {b n t : Nat} {S S' : ESt} {pc : Int} {d : Bool} (h : EStep b n S t S' pc d) : S'.ops.map EOp.kind = S.ops.map EOp.kind := by
  have key : ∀ (o o' : EOp), S.ops[t]? = some o → EOp.kind o' = EOp.kind o → (S.ops.set t o').map EOp.kind = S.ops.map EOp.kind := fun o o' ho hk => by
    rw [List.map_set, hk]
    exact set_eq (by simp [ho])
  cases h with
  | mark h hy => exact key _ _ h rfl
  | seq h hx hy => exact key _ _ h rfl
  | idle h => rfl
  | wait h hs hx => exact key _ _ h rfl
  | over h hs => rfl
theorem EStep.op {b n t : Nat} {S S' : ESt} {pc : Int} {d : Bool} (h : EStep b n S t S' pc d) : ∃ o', S'.ops[t]? = some o' := by
  cases h with
  | mark h hy => exact ⟨_, put_self h _⟩
  | seq h hx hy => exact ⟨_, put_self h _⟩
  | idle h => exact ⟨_, h⟩
  | wait h hs hx => exact ⟨_, put_self h _⟩
  | over h hs => exact ⟨_, h⟩
/-- Between two events: rows are the operations' blocks. -/
structure EJ (w : World) (g sb cb mb h sb2 rb : Nat) (b0 n K : Nat) (L : Nat → Prop) (S : ESt) (rows : List (Nat × Nat × Bool)) (wr : World) : Prop where
  two : Two (ELies g sb cb mb (b0 : Int)) (ERLies h sb2 rb (b0 : Int)) w L (S, rows.map (·.1)) (S, rows.map (·.2.1)) wr
  ok : S.ok b0 n K
  kinds : rows.map (·.2.2) = S.ops.map EOp.kind
section
variable {w wr : World} {g sb cb mb h sb2 rb : Nat} {b0 n K : Nat} {L : Nat → Prop} {S : ESt} {rows : List (Nat × Nat × Bool)}
theorem EJ.len (hJ : EJ w g sb cb mb h sb2 rb b0 n K L S rows wr) : rows.length = S.ops.length := by
  have := congrArg List.length hJ.kinds
  simpa using this
theorem EJ.quiet (hJ : EJ w g sb cb mb h sb2 rb b0 n K L S rows wr) {w' : World} (hk : Keep Nil wr w') : EJ w g sb cb mb h sb2 rb b0 n K L S rows w' := ⟨hJ.two.quiet hk, hJ.ok, hJ.kinds⟩
theorem EJ.mono (hJ : EJ w g sb cb mb h sb2 rb b0 n K L S rows wr) {K' : Nat} (hK : K ≤ K') : EJ w g sb cb mb h sb2 rb b0 n K' L S rows wr := ⟨hJ.two, hJ.ok.mono hK, hJ.kinds⟩
theorem EJ.loc (hJ : EJ w g sb cb mb h sb2 rb b0 n K L S rows wr) {w' : World} (hk : Keep L wr w') {L' : Nat → Prop} (hL : ∀ k, L' k → L k ∨ (wr.heap.size ≤ k ∧ k < w'.heap.size)) : EJ w g sb cb mb h sb2 rb b0 n K L' S rows w' := ⟨hJ.two.loc hk hL, hJ.ok, hJ.kinds⟩
/-- What stands behind a step of an operation. -/
def EJTo (w : World) (g sb cb mb h sb2 rb : Nat) (b0 n K : Nat) (L : Nat → Prop) (rows : List (Nat × Nat × Bool)) (wr w' : World) : Prop :=
  ∃ S', EJ w g sb cb mb h sb2 rb b0 n K L S' rows w' ∧ Keep (Out w L) wr w'
set_option maxRecDepth 100000 in
theorem ejstep (hJ : EJ w g sb cb mb h sb2 rb b0 n K L S rows wr) (hb0 : b0 ≤ 20) (hn : n ≤ 9) (hK : K ≤ 1000) {t : Nat} {p : Nat × Nat × Bool} (hp : rows[t]? = some p) :
    Calls Try.prog 44 #[.agg (opCells p).toArray] wr fun e w' => e = .returned (.bool true) ∧ EJTo w g sb cb mb h sb2 rb b0 n (K + 1) L rows wr w' := by
  obtain ⟨a, b, kd⟩ := p
  have ha : (rows.map (·.1))[t]? = some a := by simp [hp]
  have hb : (rows.map (·.2.1))[t]? = some b := by simp [hp]
  obtain ⟨o, ho⟩ : ∃ o, S.ops[t]? = some o := ⟨_, List.getElem?_eq_getElem (by have := (List.getElem?_eq_some_iff.1 hp).1; have := hJ.len; omega)⟩
  have hkd : EOp.kind o = kd := by
    have h1 : (S.ops.map EOp.kind)[t]? = some kd := by rw [← hJ.kinds]; simp [hp]
    simpa [ho] using h1
  obtain ⟨S', pc, d, hst, hok'⟩ := estep_ex hJ.ok ho
  obtain ⟨o', ho'⟩ := EStep.op hst
  have hkk := EStep.kinds hst
  have hko : EOp.kind o' = EOp.kind o := by
    have h1 : (S'.ops.map EOp.kind)[t]? = (S.ops.map EOp.kind)[t]? := by rw [hkk]
    simpa [ho, ho'] using h1
  -- the boxed row
  obtain ⟨cs, hcs⟩ : ∃ cs, cs = (opCells (a, b, kd)).toArray := ⟨_, rfl⟩
  have hx := heap_alloc_new wr (.cells cs 89)
  have J1 : EJ w g sb cb mb h sb2 rb b0 n K (fun k => L k ∨ k = wr.heap.size) S rows (wr.alloc (.cells cs 89)) := hJ.loc ((Keep.refl L wr).alloc _) (fun k hk => hk.elim .inl (fun e => .inr (by simp; omega)))
  obtain ⟨W, hW⟩ : ∃ W, W = wr.alloc (.cells cs 89) := ⟨_, rfl⟩
  rw [← hW] at J1 hx
  have kW : Keep Nil wr W := by rw [hW]; exact (Keep.refl Nil wr).alloc _
  obtain ⟨A, hA⟩ := J1.two.has1
  obtain ⟨B, hB⟩ := J1.two.has2
  -- what stands behind the program's step, and behind both
  let L1 : Nat → Prop := fun k => L k ∨ k = wr.heap.size
  let P : World → Prop := fun w2 => Two (ELies g sb cb mb (b0 : Int)) (ERLies h sb2 rb (b0 : Int)) w L1 (S', rows.map (·.1)) (S, rows.map (·.2.1)) w2 ∧ Keep (Out w L1) W w2
  let Q : World → Prop := fun w3 => Two (ELies g sb cb mb (b0 : Int)) (ERLies h sb2 rb (b0 : Int)) w L1 (S', rows.map (·.1)) (S', rows.map (·.2.1)) w3 ∧ Keep (Out w L1) W w3
  have fB0 : Calls Try.prog (EOp.rnextf o) #[.pointer (some ⟨b, 0, none⟩)] W fun e w' => e = .returned (.int .u8 (EOp.pc o)) ∧ W = w' := by
    obtain ⟨F, hF⟩ := hB
    exact ernext hF hb ho
  have fA0 : Calls Try.prog (EOp.pnext o) #[.pointer (some ⟨a, 0, none⟩)] W fun e w' => e = .returned (.int .u8 (EOp.pc o)) ∧ Keep Nil W w' := by
    obtain ⟨F, hF⟩ := hA
    exact epnext hF ha ho (hJ.ok.ops t o ho)
  have fA : ∀ w1, Keep Nil W w1 → Calls Try.prog (EOp.pstep o) #[.pointer (some ⟨a, 0, none⟩)] w1 fun e w2 => e = .returned (.tuple #[.int .u8 pc, .bool d]) ∧ P w2 := fun w1 k1 => by
    refine ((J1.two.quiet k1).call1 (Φ := fun e _ => e = .returned (.tuple #[.int .u8 pc, .bool d])) (s' := (S', rows.map (·.1))) (fun A' hA' => ?_)).mono fun e w2 ⟨h1, h2, h3⟩ => ⟨h1, h2, (k1.mono fun _ _ h => h.elim).trans h3 (fun _ _ h => h)⟩
    obtain ⟨F, hF⟩ := hA'
    exact epstep hF hJ.ok hb0 hn hK ha ho hst
  have fB : ∀ w2, P w2 → Calls Try.prog (EOp.rstep o) #[.pointer (some ⟨b, 0, none⟩)] w2 fun e w3 => e = .returned (.tuple #[.int .u8 pc, .bool d]) ∧ Q w3 := fun w2 hp => by
    refine (hp.1.call2 (Φ := fun e _ => e = .returned (.tuple #[.int .u8 pc, .bool d])) (r' := (S', rows.map (·.2.1))) (fun B' hB' => ?_)).mono fun e w3 ⟨h1, h2, h3⟩ => ⟨h1, h2, hp.2.trans h3 (fun _ _ h => h)⟩
    obtain ⟨F, hF⟩ := hB'
    exact erstep hF hJ.ok hb0 hn hK hb ho hst
  have fQk : ∀ w3 w4, Q w3 → Keep Nil w3 w4 → Q w4 := fun w3 w4 hq hk => ⟨hq.1.quiet hk, hq.2.trans hk (fun _ _ h => h.elim)⟩
  have fA2 : ∀ w3, Q w3 → Calls Try.prog (EOp.pnext o') #[.pointer (some ⟨a, 0, none⟩)] w3 fun e w' => e = .returned (.int .u8 (EOp.pc o')) ∧ Keep Nil w3 w' := fun w3 hq => by
    obtain ⟨A', F, hF⟩ := hq.1.has1
    exact epnext hF ha ho' (hok'.ops t o' ho')
  have fB2 : ∀ w3, Q w3 → Calls Try.prog (EOp.rnextf o') #[.pointer (some ⟨b, 0, none⟩)] w3 fun e w' => e = .returned (.int .u8 (EOp.pc o')) ∧ w3 = w' := fun w3 hq => by
    obtain ⟨B', F, hF⟩ := hq.1.has2
    exact ernext hF hb ho'
  have fP : ∀ w2, P w2 → w2.heap[wr.heap.size]? = some (.cells cs 89 (0, 0)) := fun w2 hp => hp.2.loc hx (.inr rfl)
  have fQ : ∀ w3, Q w3 → w3.heap[wr.heap.size]? = some (.cells cs 89 (0, 0)) := fun w3 hq => hq.2.loc hx (.inr rfl)
  have fin : ∀ w', Q w' → EJTo w g sb cb mb h sb2 rb b0 n (K + 1) L rows wr w' := fun w' hq =>
    ⟨S', ⟨hq.1.less (fun k hk => .inl hk), hok', by rw [hkk]; exact hJ.kinds⟩, (kW.mono fun _ _ h => h.elim).trans hq.2 (fun k hk hO => ⟨fun hl => hO.1 (.inl hl), hO.2⟩)⟩
  subst hkd
  cases o with
  | en th i v k =>
    obtain ⟨th', i', v', k', rfl⟩ : ∃ th' i' v' k', o' = .en th' i' v' k' := by
      cases o' with
      | en a b c d => exact ⟨_, _, _, _, rfl⟩
      | wa => cases hko
    have cc : cs = #[.pointer (some ⟨a, 0, none⟩), .pointer (some ⟨b, 0, none⟩), .pointer none, .pointer none] := hcs
    have hS := opstep_en (wr := wr) (a := a) (b := b) (p0 := EOp.pc (.en th i v k)) (p2 := EOp.pc (.en th' i' v' k')) (pc := pc) (d := d) P Q
    rw [← cc, ← hW] at hS
    have := hS fB0 fA0 fA (fun w2 hp => by rw [cell_of (fP w2 hp), cc]; rfl) fB (fun w3 hq => by rw [cell_of (fQ w3 hq), cell_of (fQ w3 hq), cc]; exact ⟨rfl, rfl⟩) fQk fA2 fB2
    rw [cc] at this
    exact this.mono fun e w' ⟨h1, h2⟩ => ⟨h1, fin w' h2⟩
  | wa th set s =>
    obtain ⟨th', set', s', rfl⟩ : ∃ th' set' s', o' = .wa th' set' s' := by
      cases o' with
      | en => cases hko
      | wa a b c => exact ⟨_, _, _, rfl⟩
    have cc : cs = #[.pointer none, .pointer none, .pointer (some ⟨a, 0, none⟩), .pointer (some ⟨b, 0, none⟩)] := hcs
    have hS := opstep_wa (wr := wr) (a := a) (b := b) (p0 := EOp.pc (.wa th set s)) (p2 := EOp.pc (.wa th' set' s')) (pc := pc) (d := d) P Q
    rw [← cc, ← hW] at hS
    have := hS fB0 fA0 fA (fun w2 hp => by rw [cell_of (fP w2 hp), cc]; rfl) fB (fun w3 hq => by rw [cell_of (fQ w3 hq), cell_of (fQ w3 hq), cc]; exact ⟨rfl, rfl⟩) fQk fA2 fB2
    rw [cc] at this
    exact this.mono fun e w' ⟨h1, h2⟩ => ⟨h1, fin w' h2⟩

/-! Beginnings and exits. -/
/-- What is refused by both, with the same error, at the world at hand. -/
def BothNo (wr : World) (f1 f2 : FuncId) (args1 args2 : Array Value) (r : Int → Value) : Prop :=
  ∃ e0 : Int, e0 ≠ 0 ∧ (Calls Try.prog f1 args1 wr fun e w' => e = .returned (r e0) ∧ wr = w') ∧ (Calls Try.prog f2 args2 wr fun e w' => e = .returned (r e0) ∧ wr = w')
theorem ejenter_cases (hJ : EJ w g sb cb mb h sb2 rb b0 n K L S rows wr) (t s v : Int) :
    BothNo wr 33 40 #[.pointer (some ⟨g, 0, none⟩), .int .i64 t, .int .i64 s, .int .i64 v] #[.pointer (some ⟨h, 0, none⟩), .int .i64 t, .int .i64 s, .int .i64 v] (fun e => .tuple #[.pointer none, .int .i64 e]) ∨
    (0 ≤ t ∧ t < 64 ∧ 0 ≤ v ∧ v < 64 ∧ ∃ i : Nat, s = i ∧ ∃ x, S.c[i]? = some (x, 0)) := by
  obtain ⟨A, F, hP⟩ := hJ.two.has1
  obtain ⟨B, G, hR⟩ := hJ.two.has2
  change EPAt _ _ _ _ _ _ _ S _ _ at hP
  change ERAt _ _ _ _ _ _ S _ _ at hR
  have lc := hJ.ok.lc
  have l1 : (esl S.c).length = n := by simp [esl, lc]
  have l2 : (rsl S.c).length = n := by simp [rsl, lc]
  by_cases ht : t < 0 ∨ 64 ≤ t
  · left
    have hc : ∀ b, ckE t s v n b = 2 := fun b => if_pos ht
    refine ⟨2, by decide, eenter_slot (eslot_two g t s ht) (by decide), ?_⟩
    by_cases hs : s < 0 ∨ (n : Int) ≤ s
    · have := rfenter_out (t := t) (v := v) hR.sys.eng s (by rw [l2]; exact hs)
      rwa [l2, hc] at this
    · obtain ⟨i, rfl⟩ : ∃ i : Nat, s = i := ⟨s.toNat, by omega⟩
      obtain ⟨p, hp⟩ : ∃ p, S.c[i]? = some p := ⟨_, List.getElem?_eq_getElem (by omega)⟩
      have := rfenter_err (t := t) (v := v) hR.sys.eng (rsl_at hp) (by rw [l2, hc]; decide)
      rwa [l2, hc] at this
  have hck : ∀ b, ckE t s v n b = if s < 0 ∨ (n : Int) ≤ s then 3 else if v < 0 ∨ 64 ≤ v then 2 else if b then 8 else 0 := fun b => if_neg ht
  by_cases hs : s < 0 ∨ (n : Int) ≤ s
  · left
    have hc : ∀ b, ckE t s v n b = 3 := fun b => (hck b).trans (if_pos hs)
    refine ⟨3, by decide, eenter_slot (eslot_three hP.sys.eng t s (by omega) (by omega) (by rw [l1]; exact hs)) (by decide), ?_⟩
    have := rfenter_out (t := t) (v := v) hR.sys.eng s (by rw [l2]; exact hs)
    rwa [l2, hc] at this
  have hck2 : ∀ b, ckE t s v n b = if v < 0 ∨ 64 ≤ v then 2 else if b then 8 else 0 := fun b => (hck b).trans (if_neg hs)
  obtain ⟨i, rfl⟩ : ∃ i : Nat, s = i := ⟨s.toNat, by omega⟩
  obtain ⟨⟨x, st⟩, hp⟩ : ∃ p, S.c[i]? = some p := ⟨_, List.getElem?_eq_getElem (by omega)⟩
  by_cases hv : v < 0 ∨ 64 ≤ v
  · left
    have hc : ∀ b, ckE t i v n b = 2 := fun b => (hck2 b).trans (if_pos hv)
    refine ⟨2, by decide, eenter_value hP.sys.eng (by omega) (by omega) (by omega) hv, ?_⟩
    have := rfenter_err (t := t) (v := v) hR.sys.eng (rsl_at hp) (by rw [l2, hc]; decide)
    rwa [l2, hc] at this
  obtain ⟨x0, x1, x2, x3⟩ := hJ.ok.cok i _ hp
  simp only at x0 x1 x2 x3
  by_cases h0 : st = 0
  · subst h0; exact .inr ⟨by omega, by omega, by omega, by omega, i, rfl, x, hp⟩
  · left
    have hne : (st != 0) = true := by simp [h0]
    have hc : ckE t i v n (st != 0) = 8 := by rw [hck2, if_neg hv, hne]; rfl
    refine ⟨8, by decide, eenter_busy hP.sys.eng (by omega) (by omega) (by omega) (by omega) (esl_at hp) x0 ?_, ?_⟩
    · by_cases h1 : st = 1
      · exact .inl (by simp [h1])
      · exact .inr (x3.1 (by omega))
    · have := rfenter_err (t := t) (v := v) hR.sys.eng (rsl_at hp) (by rw [l2, hc]; decide)
      rwa [l2, hc] at this
/-- Entering, first by the program, then by the reference. -/
theorem ejenter_ok (hJ : EJ w g sb cb mb h sb2 rb b0 n K L S rows wr) {t v x : Int} {i : Nat} (t0 : 0 ≤ t) (t1 : t < 64) (v0 : 0 ≤ v) (v1 : v < 64) (hx : S.c[i]? = some (x, 0)) :
    Calls Try.prog 33 #[.pointer (some ⟨g, 0, none⟩), .int .i64 t, .int .i64 i, .int .i64 v] wr fun e w1 => e = .returned (.tuple #[.pointer (some ⟨wr.heap.size, 0, none⟩), .int .i64 0]) ∧ Keep (Out w L) wr w1 ∧
      Calls Try.prog 40 #[.pointer (some ⟨h, 0, none⟩), .int .i64 t, .int .i64 i, .int .i64 v] w1 fun e w2 => e = .returned (.tuple #[.pointer (some ⟨w1.heap.size, 0, none⟩), .int .i64 0]) ∧ EJ w g sb cb mb h sb2 rb b0 n (K + 1) L (S.begun t i v x) (rows ++ [(wr.heap.size, w1.heap.size, false)]) w2 ∧ Keep (Out w L) wr w2 := by
  obtain ⟨x0, x1, -, x3⟩ := hJ.ok.cok i _ hx
  simp only at x0 x1 x3
  have hev : x % 2 = 0 := by
    have : ¬ x % 2 = 1 := fun e => by have := x3.2 e; omega
    omega
  have hi : i < n := by have := (List.getElem?_eq_some_iff.1 hx).1; have := hJ.ok.lc; omega
  refine (hJ.two.call1 (s' := (S.begun t i v x, rows.map (·.1) ++ [wr.heap.size])) (Φ := fun e _ => e = .returned (.tuple #[.pointer (some ⟨wr.heap.size, 0, none⟩), .int .i64 0])) ?_).mono ?_
  · rintro A ⟨F, hP⟩
    change EPAt _ _ _ _ _ _ _ S _ _ at hP
    refine (eenter_ok hP.sys v t0 t1 v0 v1 x (esl_at hx) x0 hev).mono ?_
    rintro e w' ⟨rfl, q1, q2, q3, q4⟩
    exact ⟨rfl, hP.new (c' := S.c.set i (x, 1)) (by rw [esl_set]; exact q1) q2 q3⟩
  · rintro e w1 ⟨rfl, h2, k1⟩
    refine ⟨rfl, k1, ?_⟩
    refine (h2.call2 (r' := (S.begun t i v x, rows.map (·.2.1) ++ [w1.heap.size])) (Φ := fun e _ => e = .returned (.tuple #[.pointer (some ⟨w1.heap.size, 0, none⟩), .int .i64 0])) ?_).mono ?_
    · rintro B ⟨G, hR⟩
      change ERAt _ _ _ _ _ _ S _ _ at hR
      have hck : ckE t (i : Int) v (rsl S.c).length false = 0 := by
        unfold ckE
        rw [if_neg (by omega), if_neg (by simp [rsl, hJ.ok.lc]; omega), if_neg (by omega)]; rfl
      refine (rfenter_ok hR.sys (rsl_at hx) hck).mono ?_
      rintro e w' ⟨rfl, q1, q2, q3, q4⟩
      exact ⟨rfl, hR.new (c' := S.c.set i (x, 1)) (by rw [rsl_set]; exact q1) q2 q3⟩
    · rintro e w2 ⟨rfl, h3, k2⟩
      refine ⟨rfl, ⟨by simpa using h3, hJ.ok.begun t0 t1 v0 v1 hx, ?_⟩, k1.trans k2 (fun _ _ h => h)⟩
      simp [ESt.begun, hJ.kinds, EOp.kind]
theorem ejwait_cases (t x : Int) :
    BothNo wr 37 42 #[.pointer (some ⟨g, 0, none⟩), .int .i64 t, .int .u64 x] #[.pointer (some ⟨h, 0, none⟩), .int .i64 t, .int .u64 x] (fun e => .tuple #[.pointer none, .int .i64 e]) ∨ (0 ≤ t ∧ t < 64 ∧ x ≠ 0) := by
  by_cases ht : t < 0 ∨ 64 ≤ t
  · exact .inl ⟨2, by decide, ewait_thread (ethread_no g t ht) (by decide), rfwait_err h (.inl ht)⟩
  by_cases hx : x = 0
  · subst hx; exact .inl ⟨2, by decide, ewait_zero g (by omega) (by omega), rfwait_err h (.inr rfl)⟩
  · exact .inr ⟨by omega, by omega, hx⟩
theorem ejwait_ok (hJ : EJ w g sb cb mb h sb2 rb b0 n K L S rows wr) (hn : 0 < n) {t : Int} {set : Nat} (t0 : 0 ≤ t) (t1 : t < 64) (s0 : set ≠ 0) (s1 : set < 18446744073709551616) :
    Calls Try.prog 37 #[.pointer (some ⟨g, 0, none⟩), .int .i64 t, .int .u64 set] wr fun e w1 => e = .returned (.tuple #[.pointer (some ⟨wr.heap.size, 0, none⟩), .int .i64 0]) ∧ Keep (Out w L) wr w1 ∧
      Calls Try.prog 42 #[.pointer (some ⟨h, 0, none⟩), .int .i64 t, .int .u64 set] w1 fun e w2 => e = .returned (.tuple #[.pointer (some ⟨w1.heap.size, 0, none⟩), .int .i64 0]) ∧ EJ w g sb cb mb h sb2 rb b0 n (K + 1) L (S.waits t set) (rows ++ [(wr.heap.size, w1.heap.size, true)]) w2 ∧ Keep (Out w L) wr w2 := by
  refine (hJ.two.call1 (s' := (S.waits t set, rows.map (·.1) ++ [wr.heap.size])) (Φ := fun e _ => e = .returned (.tuple #[.pointer (some ⟨wr.heap.size, 0, none⟩), .int .i64 0])) ?_).mono ?_
  · rintro A ⟨F, hP⟩
    change EPAt _ _ _ _ _ _ _ S _ _ at hP
    refine (ewait_ok (g := g) t0 t1 (show (set : Int) ≠ 0 by omega)).mono ?_
    rintro e w' ⟨rfl, q2, q3, q4⟩
    exact ⟨rfl, hP.new (c' := S.c) (hP.sys.quiet q3) q2 (q3.mono fun _ _ h => h.elim)⟩
  · rintro e w1 ⟨rfl, h2, k1⟩
    refine ⟨rfl, k1, ?_⟩
    refine (h2.call2 (r' := (S.waits t set, rows.map (·.2.1) ++ [w1.heap.size])) (Φ := fun e _ => e = .returned (.tuple #[.pointer (some ⟨w1.heap.size, 0, none⟩), .int .i64 0])) ?_).mono ?_
    · rintro B ⟨G, hR⟩
      change ERAt _ _ _ _ _ _ S _ _ at hR
      refine (rfwait_ok h t0 t1 (show (set : Int) ≠ 0 by omega)).mono ?_
      rintro e w' ⟨rfl, q2, q3, q4⟩
      exact ⟨rfl, hR.new (o := .wa t set ⟨0, 0, 0⟩) (c' := S.c) (hR.sys.quiet q3) ⟨0, q2, fun _ => rfl⟩ (q3.mono fun _ _ h => h.elim)⟩
    · rintro e w2 ⟨rfl, h3, k2⟩
      refine ⟨rfl, ⟨by simpa using h3, hJ.ok.waits hn t0 t1 s1, ?_⟩, k1.trans k2 (fun _ _ h => h)⟩
      simp [ESt.waits, hJ.kinds, EOp.kind]
theorem ejexit_cases (hJ : EJ w g sb cb mb h sb2 rb b0 n K L S rows wr) (t s : Int) :
    BothNo wr 39 41 #[.pointer (some ⟨g, 0, none⟩), .int .i64 t, .int .i64 s] #[.pointer (some ⟨h, 0, none⟩), .int .i64 t, .int .i64 s] (fun e => .tuple #[.int .u8 0, .int .i64 e]) ∨
    (0 ≤ t ∧ t < 64 ∧ ∃ i : Nat, s = i ∧ ∃ x, S.c[i]? = some (x, 2)) := by
  obtain ⟨A, F, hP⟩ := hJ.two.has1
  obtain ⟨B, G, hR⟩ := hJ.two.has2
  change EPAt _ _ _ _ _ _ _ S _ _ at hP
  change ERAt _ _ _ _ _ _ S _ _ at hR
  have lc := hJ.ok.lc
  have l1 : (esl S.c).length = n := by simp [esl, lc]
  have l2 : (rsl S.c).length = n := by simp [rsl, lc]
  by_cases ht : t < 0 ∨ 64 ≤ t
  · exact .inl ⟨2, by decide, eexit_slot (eslot_two g t s ht) (by decide), rfexit_thread h t s ht⟩
  by_cases hs : s < 0 ∨ (n : Int) ≤ s
  · exact .inl ⟨3, by decide, eexit_slot (eslot_three hP.sys.eng t s (by omega) (by omega) (by rw [l1]; exact hs)) (by decide), rfexit_slot hR.sys.eng (by omega) (by omega) s (by rw [l2]; exact hs)⟩
  obtain ⟨i, rfl⟩ : ∃ i : Nat, s = i := ⟨s.toNat, by omega⟩
  obtain ⟨⟨x, st⟩, hp⟩ : ∃ p, S.c[i]? = some p := ⟨_, List.getElem?_eq_getElem (by omega)⟩
  obtain ⟨x0, x1, x2, x3⟩ := hJ.ok.cok i _ hp
  simp only at x0 x1 x2 x3
  by_cases h2 : st = 2
  · subst h2; exact .inr ⟨by omega, by omega, i, rfl, x, hp⟩
  · have hd : (st == 2) = false := by simp [h2]
    have hr := rsl_at hp
    simp only [hd] at hr
    exact .inl ⟨8, by decide, eexit_state hP.sys.eng (by omega) (by omega) (esl_at hp) x0 (by have : ¬ x % 2 = 1 := fun e => h2 (x3.2 e); omega), rfexit_state hR.sys.eng (by omega) (by omega) hr⟩
theorem ejexit_ok (hJ : EJ w g sb cb mb h sb2 rb b0 n K L S rows wr) (hb0 : b0 ≤ 20) (hn : n ≤ 9) (hK : K ≤ 1000) {t x : Int} {i : Nat} (t0 : 0 ≤ t) (t1 : t < 64) (hx : S.c[i]? = some (x, 2)) :
    Calls Try.prog 39 #[.pointer (some ⟨g, 0, none⟩), .int .i64 t, .int .i64 i] wr fun e w1 => e = .returned (.tuple #[.int .u8 13, .int .i64 0]) ∧ Keep (Out w L) wr w1 ∧
      Calls Try.prog 41 #[.pointer (some ⟨h, 0, none⟩), .int .i64 t, .int .i64 i] w1 fun e w2 => e = .returned (.tuple #[.int .u8 13, .int .i64 0]) ∧ EJTo w g sb cb mb h sb2 rb b0 n (K + 1) L rows wr w2 := by
  have lw := hJ.ok.lw
  have lc := hJ.ok.lc
  have ll := hJ.ok.llog
  have hi : i < n := by have := (List.getElem?_eq_some_iff.1 hx).1; omega
  obtain ⟨x0, x1, -, x3⟩ := hJ.ok.cok i _ hx
  simp only at x0 x1 x3
  have hodd := x3.1 trivial
  obtain ⟨y, hy⟩ : ∃ y, S.ws[((b0 : Int) + 2 * i).toNat]? = some y := ⟨_, List.getElem?_eq_getElem (by omega)⟩
  refine (hJ.two.call1 (s' := (S.left b0 t i x y, rows.map (·.1))) (Φ := fun e _ => e = .returned (.tuple #[.int .u8 13, .int .i64 0])) ?_).mono ?_
  · rintro A ⟨F, hP⟩
    change EPAt _ _ _ _ _ _ _ S _ _ at hP
    refine (eexit_ok hP.sys x y _ t0 t1 (esl_at hx) x0 (by omega) hodd (by omega) (by omega) (by simp [esl, lc]; omega) hy (by omega)).mono ?_
    rintro e w' ⟨rfl, F', q1, q2, q3⟩
    exact ⟨rfl, hP.none (c' := S.c.set i (x + 1, 0)) (by rw [esl_set]; exact q1) q2 q3⟩
  · rintro e w1 ⟨rfl, h2, k1⟩
    refine ⟨rfl, k1, ?_⟩
    refine (h2.call2 (r' := (S.left b0 t i x y, rows.map (·.2.1))) (Φ := fun e _ => e = .returned (.tuple #[.int .u8 13, .int .i64 0])) ?_).mono ?_
    · rintro B ⟨G, hR⟩
      change ERAt _ _ _ _ _ _ S _ _ at hR
      refine (rfexit_ok hR.sys x y t0 t1 (rsl_at hx) x0 (by omega) (by omega) (by omega) (by simp [rsl, lc]; omega) hy (by omega)).mono ?_
      rintro e w' ⟨rfl, F', q1, q2, q3⟩
      exact ⟨rfl, hR.none (c' := S.c.set i (x + 1, 0)) (by rw [rsl_set]; exact q1) q2 q3⟩
    · rintro e w2 ⟨rfl, h3, k2⟩
      exact ⟨rfl, _, ⟨h3, hJ.ok.left hx, hJ.kinds⟩, k1.trans k2 (fun _ _ h => h)⟩
/-- Open by both returns the same list. -/
theorem ejopen (hJ : EJ w g sb cb mb h sb2 rb b0 n K L S rows wr) (hn : n ≤ 9) :
    Calls Try.prog 27 #[.pointer (some ⟨g, 0, none⟩)] wr fun e w' => ∃ (l : List Int) (v1 : Value), e = .returned v1 ∧ Rd w' 1 v1 l.length (l.map (Value.int .i64)) ∧ Keep Nil wr w' ∧ l.length ≤ 9 ∧
      ∀ w'', Keep Nil w' w'' → Calls Try.prog 45 #[.pointer (some ⟨h, 0, none⟩)] w'' fun e w3 => ∃ v2, e = .returned v2 ∧ Rd w3 1 v2 l.length (l.map (Value.int .i64)) ∧ Keep Nil w'' w3 := by
  obtain ⟨A, F, hP⟩ := hJ.two.has1
  obtain ⟨B, G, hR⟩ := hJ.two.has2
  change EPAt _ _ _ _ _ _ _ S _ _ at hP
  change ERAt _ _ _ _ _ _ S _ _ at hR
  have lc := hJ.ok.lc
  have l1 : (esl S.c).length = n := by simp [esl, lc]
  have l2 : (rsl S.c).length = n := by simp [rsl, lc]
  have e1 : (esl S.c).map (·.1) = S.c.map (·.1) := by simp [esl]
  refine (eopen_ok hP.sys.eng (fun p hp => ?_) (by omega)).mono ?_
  · simp only [esl, List.mem_map] at hp
    obtain ⟨q, hq, rfl⟩ := hp
    obtain ⟨i, hi⟩ := List.getElem?_of_mem hq
    exact (hJ.ok.cok i q hi).1
  · rintro e w' ⟨v1, rfl, ho, hk, -⟩
    rw [e1] at ho
    refine ⟨fopens (S.c.map (·.1)) (S.c.map (·.1)).length, v1, rfl, row_rd ho, hk, by have := fopens_len (S.c.map (·.1)) (S.c.map (·.1)).length; simp only [List.length_map] at this ⊢; omega, fun w'' hk2 => ?_⟩
    refine (rfopen_ok ((hR.sys.eng.quiet hk).quiet hk2) (S.c.map (·.1)) (by simp [l2, lc]) (fun i x b d hx => ?_) (by omega)).mono ?_
    · simp only [rsl, List.getElem?_map, Option.map_eq_some_iff, Prod.mk.injEq] at hx
      obtain ⟨p, hp, e1, e2, e3⟩ := hx
      obtain ⟨-, -, -, a4⟩ := hJ.ok.cok i p hp
      refine ⟨by simp [hp, e1], ?_⟩
      rw [← e3, ← e1, beq_iff_eq]
      exact a4
    · rintro e w3 ⟨v2, rfl, ho2, hk3, -⟩
      exact ⟨v2, rfl, row_rd ho2, hk3⟩
end
end Go.Proofs.Ytihgfklajhhikaa
