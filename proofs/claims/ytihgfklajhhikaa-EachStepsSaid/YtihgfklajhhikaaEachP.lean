/- EachSteps: the program's side. -/
import Derived.Test.YtihgfklajhhikaaEachSt
set_option linter.unusedVariables false
set_option linter.unusedSimpArgs false
namespace Go.Proofs.Ytihgfklajhhikaa
open Go.RowKit Go.Lf
def esl (c : List (Int × Nat)) : List (Int × Bool) := c.map fun p => (p.1, p.2 == 1)
theorem esl_at {c : List (Int × Nat)} {i : Nat} {p : Int × Nat} (h : c[i]? = some p) : (esl c)[i]? = some (p.1, p.2 == 1) := by simp [esl, h]
theorem esl_set (c : List (Int × Nat)) (i : Nat) (p : Int × Nat) : esl (c.set i p) = (esl c).set i (p.1, p.2 == 1) := by simp [esl, List.map_set]
def EPOp (w : World) (g b : Nat) : EOp → Prop
  | .en t i v k => EEntAt w b g t i v k
  | .wa t set s => EWaitAt w b g t set s
theorem EPOp.keep {w w' : World} {g b : Nat} {S : Nat → Prop} {o : EOp} (h : EPOp w g b o) (hk : Keep S w w') (hn : ¬ S b) : EPOp w' g b o := by
  cases o with
  | en => exact hk.at h hn
  | wa => exact hk.at h hn
theorem EPOp.ne {w : World} {g b : Nat} {o : EOp} (h : EPOp w g b o) {k : Nat} {cs : Array Value} {ty : TypeId} (hk : w.heap[k]? = some (.cells cs ty (0, 0))) (h1 : ty ≠ 171) (h2 : ty ≠ 177) : b ≠ k := by
  cases o with
  | en => exact type_ne h hk (fun e => h1 e.symm)
  | wa => exact type_ne h hk (fun e => h2 e.symm)
theorem EPOp.lt {w : World} {g b : Nat} {o : EOp} (h : EPOp w g b o) : b < w.heap.size := by
  cases o with
  | en => exact lt_of_block h
  | wa => exact lt_of_block h
/-- The engine, its memory and its operations, at the blocks A. -/
structure EPAt (g sb cb mb : Nat) (base : Int) (w : World) (A : Nat → Prop) (S : ESt) (bl : List Nat) (F : Nat → Prop) : Prop where
  sys : ESys w g sb cb mb F base (esl S.c) S.ws S.log
  len : bl.length = S.ops.length
  objs : ∀ (i b : Nat) (o : EOp), bl[i]? = some b → S.ops[i]? = some o → EPOp w g b o ∧ ¬ F b
  apart : ∀ i j b : Nat, bl[i]? = some b → bl[j]? = some b → i = j
  foot : ∀ k, A k ↔ F k ∨ k = g ∨ k = sb ∨ k = cb ∨ k ∈ bl
section
variable {g sb cb mb : Nat} {base : Int} {w w' : World} {A F F' : Nat → Prop} {S S' : ESt} {bl bl' : List Nat}
theorem EPAt.at (h : EPAt g sb cb mb base w A S bl F) {b : Nat} (hb : b ∈ bl) : ∃ (i : Nat) (o : EOp), bl[i]? = some b ∧ S.ops[i]? = some o ∧ EPOp w g b o ∧ ¬ F b := by
  obtain ⟨i, hi⟩ := List.getElem?_of_mem hb
  obtain ⟨o, ho⟩ : ∃ o, S.ops[i]? = some o := ⟨_, List.getElem?_eq_getElem (by have := (List.getElem?_eq_some_iff.1 hi).1; have := h.len; omega)⟩
  exact ⟨i, o, hi, ho, h.objs i b o hi ho⟩
theorem EPAt.lt (h : EPAt g sb cb mb base w A S bl F) (k : Nat) (hA : A k) : k < w.heap.size := by
  rcases (h.foot k).1 hA with e | e | e | e | e
  · exact h.sys.mem.lt k e
  · subst e; exact lt_of_block h.sys.eng.head
  · subst e; exact lt_of_block h.sys.eng.slots
  · subst e; exact lt_of_block h.sys.eng.cap
  · obtain ⟨i, o, -, -, ho, -⟩ := h.at e; exact ho.lt
theorem EPAt.keep (h : EPAt g sb cb mb base w A S bl F) {T : Nat → Prop} (hk : Keep T w w') (hn : ∀ k, A k → ¬ T k) : EPAt g sb cb mb base w' A S bl F :=
  ⟨h.sys.keep hk (fun k hF => hn k ((h.foot k).2 (.inl hF))) (hn g ((h.foot g).2 (.inr (.inl rfl)))) (hn sb ((h.foot sb).2 (.inr (.inr (.inl rfl))))) (hn cb ((h.foot cb).2 (.inr (.inr (.inr (.inl rfl)))))), h.len,
   fun i b o hb ho => ⟨(h.objs i b o hb ho).1.keep hk (hn b ((h.foot b).2 (.inr (.inr (.inr (.inr (List.mem_of_getElem? hb))))))), (h.objs i b o hb ho).2⟩, h.apart, h.foot⟩
def ELies (g sb cb mb : Nat) (base : Int) : Lies (ESt × List Nat) where
  lie w A x := ∃ F, EPAt g sb cb mb base w A x.1 x.2 F
  keep := fun ⟨F, h⟩ hk hn => ⟨F, h.keep hk hn⟩
  lt := fun ⟨_, h⟩ k hA => h.lt k hA
/-- The engine has turned, and at most operation t. -/
theorem EPAt.to (h : EPAt g sb cb mb base w A S bl F) (t : Nat) (hs : ESys w' g sb cb mb F' base (esl S'.c) S'.ws S'.log) (hk : Keep (fun k => F k ∨ k = sb ∨ bl[t]? = some k) w w') (hf : Foot w F F') (hl : bl'.length = S'.ops.length)
    (hnew : ∀ (i b : Nat) (o : EOp), bl'[i]? = some b → S'.ops[i]? = some o → (i ≠ t ∧ bl[i]? = some b ∧ S.ops[i]? = some o) ∨ (EPOp w' g b o ∧ ¬ F' b)) (hbl : ∀ b ∈ bl', b ∈ bl ∨ w.heap.size ≤ b) (hap : ∀ i j b : Nat, bl'[i]? = some b → bl'[j]? = some b → i = j) :
    (ELies g sb cb mb base).To w A (S', bl') w' := by
  refine ⟨fun k => F' k ∨ k = g ∨ k = sb ∨ k = cb ∨ k ∈ bl', ⟨F', hs, hl, fun i b o hb ho => ?_, hap, fun _ => Iff.rfl⟩, hk.mono (fun k _ hk => (h.foot k).2 ?_), fun k hk => ?_⟩
  · rcases hnew i b o hb ho with ⟨e1, e2, e3⟩ | e
    · obtain ⟨ho2, hF⟩ := h.objs i b o e2 e3
      have hlt := ho2.lt
      refine ⟨ho2.keep hk ?_, fun e => (hf b e).elim hF (fun e => by omega)⟩
      rintro (e | e | e)
      · exact hF e
      · exact ho2.ne h.sys.eng.slots (by decide) (by decide) e
      · exact e1 (h.apart i t b e2 e)
    · exact e
  · rcases hk with e | e | e
    · exact .inl e
    · exact .inr (.inr (.inl e))
    · exact .inr (.inr (.inr (.inr (List.mem_of_getElem? e))))
  · rcases hk with e | e | e | e | e
    · exact (hf k e).elim (fun e => .inl ((h.foot k).2 (.inl e))) .inr
    · exact .inl ((h.foot k).2 (.inr (.inl e)))
    · exact .inl ((h.foot k).2 (.inr (.inr (.inl e))))
    · exact .inl ((h.foot k).2 (.inr (.inr (.inr (.inl e)))))
    · exact (hbl k e).elim (fun e => .inl ((h.foot k).2 (.inr (.inr (.inr (.inr e)))))) .inr
theorem EPAt.one (h : EPAt g sb cb mb base w A S bl F) {t b : Nat} {o' : EOp} {c' : List (Int × Nat)} {ws' : List Int} {log' : List Acc} (hb : bl[t]? = some b) (hs : ESys w' g sb cb mb F' base (esl c') ws' log') (ho : EPOp w' g b o') (hk : Keep (fun k => F k ∨ k = sb ∨ k = b) w w') (hf : Foot w F F') (hn : ¬ F' b) :
    (ELies g sb cb mb base).To w A (⟨c', ws', log', S.ops.set t o'⟩, bl) w' := by
  refine h.to t hs (hk.mono fun k _ e => ?_) hf (by simpa using h.len) (fun i b' p hb' hp => ?_) (fun b hb => .inl hb) h.apart
  · rcases e with e | e | e
    · exact .inl e
    · exact .inr (.inl e)
    · subst e; exact .inr (.inr hb)
  · rcases set_cases hp with ⟨i1, i2⟩ | ⟨i1, i2⟩
    · subst i1; subst i2
      rw [hb] at hb'; cases hb'
      exact .inr ⟨ho, hn⟩
    · exact .inl ⟨i1, hb', i2⟩
theorem EPAt.none (h : EPAt g sb cb mb base w A S bl F) {c' : List (Int × Nat)} {ws' : List Int} {log' : List Acc} (hs : ESys w' g sb cb mb F' base (esl c') ws' log') (hk : Keep (fun k => F k ∨ k = sb) w w') (hf : Foot w F F') :
    (ELies g sb cb mb base).To w A (⟨c', ws', log', S.ops⟩, bl) w' := by
  refine h.to bl.length hs (hk.mono fun k _ e => ?_) hf h.len (fun i b' p hb' hp => .inl ⟨?_, hb', hp⟩) (fun b hb => .inl hb) h.apart
  · rcases e with e | e
    · exact .inl e
    · exact .inr (.inl e)
  · have := (List.getElem?_eq_some_iff.1 hb').1; omega
theorem EPAt.new (h : EPAt g sb cb mb base w A S bl F) {o : EOp} {c' : List (Int × Nat)} (hs : ESys w' g sb cb mb F base (esl c') S.ws S.log) (ho : EPOp w' g w.heap.size o) (hk : Keep (fun k => k = sb) w w') :
    (ELies g sb cb mb base).To w A (⟨c', S.ws, S.log, S.ops ++ [o]⟩, bl ++ [w.heap.size]) w' := by
  have nF : ¬ F w.heap.size := fun e => by have := h.sys.mem.lt _ e; omega
  have old : ∀ (i b : Nat), bl[i]? = some b → b < w.heap.size := fun i b hb => h.lt b ((h.foot b).2 (.inr (.inr (.inr (.inr (List.mem_of_getElem? hb))))))
  refine h.to bl.length hs (hk.mono fun k _ e => .inr (.inl e)) (fun k hk => .inl hk) (by simp [h.len]) (fun i b' p hb' hp => ?_) (fun b hb => ?_) (fun i j b hi hj => ?_)
  · rcases get_snoc hb' with ⟨e1, e2⟩ | ⟨e1, e2⟩ <;> rcases get_snoc hp with ⟨e3, e4⟩ | ⟨e3, e4⟩
    · subst e2; subst e4; exact .inr ⟨ho, nF⟩
    · exact absurd (e1.trans h.len) e3
    · exact absurd (e3.trans h.len.symm) e1
    · exact .inl ⟨e1, e2, e4⟩
  · rcases List.mem_append.1 hb with e | e
    · exact .inl e
    · simp only [List.mem_singleton] at e; exact .inr (by omega)
  · rcases get_snoc hi with ⟨e1, e2⟩ | ⟨e1, e2⟩ <;> rcases get_snoc hj with ⟨e3, e4⟩ | ⟨e3, e4⟩
    · exact e1.trans e3.symm
    · have := old j b e4; omega
    · have := old i b e2; omega
    · exact h.apart i j b e2 e4
theorem EPAt.same (h : EPAt g sb cb mb base w A S bl F) (hk : Keep Nil w w') : (ELies g sb cb mb base).To w A (S, bl) w' :=
  ⟨A, ⟨F, h.keep hk (fun _ _ h => h)⟩, hk.mono (fun _ _ h => h.elim), fun _ h => .inl h⟩

/-- What a step is called. -/
def EOp.pstep : EOp → FuncId
  | .en _ _ _ _ => 34
  | .wa _ _ _ => 38
def EOp.pnext : EOp → FuncId
  | .en _ _ _ _ => 83
  | .wa _ _ _ => 86
def EOp.pc : EOp → Int
  | .en _ _ _ k => epc k
  | .wa _ _ s => ewpc s.st
theorem epnext (h : EPAt g sb cb mb base w A S bl F) {t b : Nat} {o : EOp} {n : Nat} {c : List (Int × Nat)} (hb : bl[t]? = some b) (ho : S.ops[t]? = some o) (hok : o.ok n c) :
    Calls Try.prog (EOp.pnext o) #[.pointer (some ⟨b, 0, none⟩)] w fun e w' => e = .returned (.int .u8 (EOp.pc o)) ∧ Keep Nil w w' := by
  have ho2 := (h.objs t b o hb ho).1
  cases o with
  | en t i v k => exact enext_any ho2 hok.2.2.2.2.2.1
  | wa t set s => exact ewnext_any ho2 hok.2.2.2.1
theorem epstep {b0 n K : Nat} (h : EPAt g sb cb mb (b0 : Int) w A S bl F) (hok : S.ok b0 n K) (hb0 : b0 ≤ 20) (hn : n ≤ 9) (hK : K ≤ 1000) {t b : Nat} {o : EOp} (hb : bl[t]? = some b) (ho : S.ops[t]? = some o) {pc : Int} {d : Bool} (hst : EStep b0 n S t S' pc d) :
    Calls Try.prog (EOp.pstep o) #[.pointer (some ⟨b, 0, none⟩)] w fun e w' => e = .returned (.tuple #[.int .u8 pc, .bool d]) ∧ (ELies g sb cb mb (b0 : Int)).To w A (S', bl) w' := by
  have lc := hok.lc
  have ll := hok.llog
  have le : (esl S.c).length = n := by simp [esl, lc]
  have hoo := hok.ops t o ho
  obtain ⟨hp, nF⟩ := h.objs t b o hb ho
  cases hst with
  | @mark th i v y h1 hy =>
    rw [ho] at h1; cases h1
    obtain ⟨t0, t1, hi, v0, v1, -, -⟩ := hoo
    refine (estep_mark h.sys hp nF y t0 t1 v0 v1 (by omega) (by omega) (by omega) hy (by omega)).mono ?_
    rintro e w' ⟨rfl, F', q1, q2, q3, q4, q5⟩
    exact ⟨rfl, h.one hb q1 q2 q3 q4 q5⟩
  | @seq th i v x y h1 hx hy =>
    rw [ho] at h1; cases h1
    obtain ⟨t0, t1, hi, v0, v1, -, -⟩ := hoo
    obtain ⟨x0, x1, -, -⟩ := hok.cok i _ hx
    simp only at x0 x1
    refine (estep_seq h.sys hp nF x y _ t0 t1 (esl_at hx) x0 (by omega) (by omega) (by omega) (by omega) hy (by omega)).mono ?_
    rintro e w' ⟨rfl, F', q1, q2, q3, q4, q5⟩
    exact ⟨rfl, h.one hb (by rw [esl_set]; exact q1) q2 q3 q4 q5⟩
  | @idle th i v h1 =>
    rw [ho] at h1; cases h1
    refine (estep_idle hp).mono ?_
    rintro e w' ⟨rfl, hk⟩
    exact ⟨rfl, h.same hk⟩
  | @wait th set s x h1 hs hx =>
    rw [ho] at h1; cases h1
    obtain ⟨t0, t1, hset, h3, hpn⟩ := hoo
    have hpn := hpn hs
    have x1 : s.st = 1 → x < 64 := fun e => by
      obtain ⟨u, hu, hx2⟩ := hok.vals s.pos hpn
      unfold EWS.addr at hx
      rw [if_pos e, show ((b0 : Int) + ((2 * s.pos + 1 : Nat) : Int)).toNat = b0 + 2 * s.pos + 1 by omega, hx2] at hx
      cases hx; omega
    have := ewait_step hset h.sys hp nF (by omega) hs x (hok.wpos x (List.mem_of_getElem? hx)) x1 t0 t1 (by omega) (by omega) hx (by omega)
    rw [le] at this
    refine this.mono ?_
    rintro e w' ⟨rfl, F', q1, q2, q3, q4, q5⟩
    exact ⟨rfl, h.one hb q1 q2 (q3.mono fun k _ e => e.elim .inl (fun e => .inr (.inr e))) q4 q5⟩
  | @over th set s h1 hs =>
    rw [ho] at h1; cases h1
    refine (ewait_idle hp hs).mono ?_
    rintro e w' ⟨rfl, rfl⟩
    exact ⟨rfl, h.same (Keep.refl _ _)⟩
end
end Go.Proofs.Ytihgfklajhhikaa
