/- EachSteps: the reference's side. -/
import Derived.Test.YtihgfklajhhikaaEachP
import Derived.Test.YtihgfklajhhikaaRefEach3
set_option linter.unusedVariables false
set_option linter.unusedSimpArgs false
namespace Go.Proofs.Ytihgfklajhhikaa
open Go.RowKit Go.Lf
def rsl (c : List (Int × Nat)) : List (Int × Bool × Bool) := c.map fun p => (p.1, p.2 != 0, p.2 == 2)
theorem rsl_at {c : List (Int × Nat)} {i : Nat} {p : Int × Nat} (h : c[i]? = some p) : (rsl c)[i]? = some (p.1, p.2 != 0, p.2 == 2) := by simp [rsl, h]
theorem rsl_set (c : List (Int × Nat)) (i : Nat) (p : Int × Nat) : rsl (c.set i p) = (rsl c).set i (p.1, p.2 != 0, p.2 == 2) := by simp [rsl, List.map_set]
def EROp (w : World) (h b : Nat) : EOp → Prop
  | .en t i v k => REntAt w b h t i v k
  | .wa t set s => ∃ rs, RWaitAt w b h t set s rs ∧ (s.st = 1 ∨ s.st = 2 → rs = s.seen)
theorem EROp.keep {w w' : World} {h b : Nat} {S : Nat → Prop} {o : EOp} (ho : EROp w h b o) (hk : Keep S w w') (hn : ¬ S b) : EROp w' h b o := by
  cases o with
  | en => exact hk.at ho hn
  | wa => obtain ⟨rs, h1, h2⟩ := ho; exact ⟨rs, hk.at h1 hn, h2⟩
theorem EROp.ne {w : World} {h b : Nat} {o : EOp} (ho : EROp w h b o) {k : Nat} {cs : Array Value} {ty : TypeId} (hk : w.heap[k]? = some (.cells cs ty (0, 0))) (h1 : ty ≠ 186) (h2 : ty ≠ 188) : b ≠ k := by
  cases o with
  | en => exact type_ne ho hk (fun e => h1 e.symm)
  | wa => obtain ⟨rs, h3, -⟩ := ho; exact type_ne h3 hk (fun e => h2 e.symm)
theorem EROp.lt {w : World} {h b : Nat} {o : EOp} (ho : EROp w h b o) : b < w.heap.size := by
  cases o with
  | en => exact lt_of_block ho
  | wa => obtain ⟨rs, h3, -⟩ := ho; exact lt_of_block h3
structure ERAt (h sb rb : Nat) (base : Int) (w : World) (A : Nat → Prop) (S : ESt) (bl : List Nat) (F : Nat → Prop) : Prop where
  sys : RSys w h sb rb F base (rsl S.c) S.ws S.log
  len : bl.length = S.ops.length
  objs : ∀ (i b : Nat) (o : EOp), bl[i]? = some b → S.ops[i]? = some o → EROp w h b o ∧ ¬ F b
  apart : ∀ i j b : Nat, bl[i]? = some b → bl[j]? = some b → i = j
  foot : ∀ k, A k ↔ F k ∨ k = h ∨ k = sb ∨ k ∈ bl
section
variable {h sb rb : Nat} {base : Int} {w w' : World} {A F F' : Nat → Prop} {S S' : ESt} {bl bl' : List Nat}
theorem ERAt.at (hh : ERAt h sb rb base w A S bl F) {b : Nat} (hb : b ∈ bl) : ∃ (i : Nat) (o : EOp), bl[i]? = some b ∧ S.ops[i]? = some o ∧ EROp w h b o ∧ ¬ F b := by
  obtain ⟨i, hi⟩ := List.getElem?_of_mem hb
  obtain ⟨o, ho⟩ : ∃ o, S.ops[i]? = some o := ⟨_, List.getElem?_eq_getElem (by have := (List.getElem?_eq_some_iff.1 hi).1; have := hh.len; omega)⟩
  exact ⟨i, o, hi, ho, hh.objs i b o hi ho⟩
theorem ERAt.lt (hh : ERAt h sb rb base w A S bl F) (k : Nat) (hA : A k) : k < w.heap.size := by
  rcases (hh.foot k).1 hA with e | e | e | e
  · exact hh.sys.mem.lt k e
  · subst e; exact lt_of_block hh.sys.eng.head
  · subst e; exact lt_of_block hh.sys.eng.slots
  · obtain ⟨i, o, -, -, ho, -⟩ := hh.at e; exact ho.lt
theorem ERAt.keep (hh : ERAt h sb rb base w A S bl F) {T : Nat → Prop} (hk : Keep T w w') (hn : ∀ k, A k → ¬ T k) : ERAt h sb rb base w' A S bl F :=
  ⟨hh.sys.keep hk (fun k hF => hn k ((hh.foot k).2 (.inl hF))) (hn h ((hh.foot h).2 (.inr (.inl rfl)))) (hn sb ((hh.foot sb).2 (.inr (.inr (.inl rfl))))), hh.len,
   fun i b o hb ho => ⟨(hh.objs i b o hb ho).1.keep hk (hn b ((hh.foot b).2 (.inr (.inr (.inr (List.mem_of_getElem? hb)))))), (hh.objs i b o hb ho).2⟩, hh.apart, hh.foot⟩
def ERLies (h sb rb : Nat) (base : Int) : Lies (ESt × List Nat) where
  lie w A x := ∃ F, ERAt h sb rb base w A x.1 x.2 F
  keep := fun ⟨F, hh⟩ hk hn => ⟨F, hh.keep hk hn⟩
  lt := fun ⟨_, hh⟩ k hA => hh.lt k hA
theorem ERAt.to (hh : ERAt h sb rb base w A S bl F) (t : Nat) (hs : RSys w' h sb rb F' base (rsl S'.c) S'.ws S'.log) (hk : Keep (fun k => F k ∨ k = sb ∨ bl[t]? = some k) w w') (hf : Foot w F F') (hl : bl'.length = S'.ops.length)
    (hnew : ∀ (i b : Nat) (o : EOp), bl'[i]? = some b → S'.ops[i]? = some o → (i ≠ t ∧ bl[i]? = some b ∧ S.ops[i]? = some o) ∨ (EROp w' h b o ∧ ¬ F' b)) (hbl : ∀ b ∈ bl', b ∈ bl ∨ w.heap.size ≤ b) (hap : ∀ i j b : Nat, bl'[i]? = some b → bl'[j]? = some b → i = j) :
    (ERLies h sb rb base).To w A (S', bl') w' := by
  refine ⟨fun k => F' k ∨ k = h ∨ k = sb ∨ k ∈ bl', ⟨F', hs, hl, fun i b o hb ho => ?_, hap, fun _ => Iff.rfl⟩, hk.mono (fun k _ hk => (hh.foot k).2 ?_), fun k hk => ?_⟩
  · rcases hnew i b o hb ho with ⟨e1, e2, e3⟩ | e
    · obtain ⟨ho2, hF⟩ := hh.objs i b o e2 e3
      have hlt := ho2.lt
      refine ⟨ho2.keep hk ?_, fun e => (hf b e).elim hF (fun e => by omega)⟩
      rintro (e | e | e)
      · exact hF e
      · exact ho2.ne hh.sys.eng.slots (by decide) (by decide) e
      · exact e1 (hh.apart i t b e2 e)
    · exact e
  · rcases hk with e | e | e
    · exact .inl e
    · exact .inr (.inr (.inl e))
    · exact .inr (.inr (.inr (List.mem_of_getElem? e)))
  · rcases hk with e | e | e | e
    · exact (hf k e).elim (fun e => .inl ((hh.foot k).2 (.inl e))) .inr
    · exact .inl ((hh.foot k).2 (.inr (.inl e)))
    · exact .inl ((hh.foot k).2 (.inr (.inr (.inl e))))
    · exact (hbl k e).elim (fun e => .inl ((hh.foot k).2 (.inr (.inr (.inr e))))) .inr
theorem ERAt.one (hh : ERAt h sb rb base w A S bl F) {t b : Nat} {o' : EOp} {c' : List (Int × Nat)} {ws' : List Int} {log' : List Acc} (hb : bl[t]? = some b) (hs : RSys w' h sb rb F' base (rsl c') ws' log') (ho : EROp w' h b o') (hk : Keep (fun k => F k ∨ k = sb ∨ k = b) w w') (hf : Foot w F F') (hn : ¬ F' b) :
    (ERLies h sb rb base).To w A (⟨c', ws', log', S.ops.set t o'⟩, bl) w' := by
  refine hh.to t hs (hk.mono fun k _ e => ?_) hf (by simpa using hh.len) (fun i b' p hb' hp => ?_) (fun b hb => .inl hb) hh.apart
  · rcases e with e | e | e
    · exact .inl e
    · exact .inr (.inl e)
    · subst e; exact .inr (.inr hb)
  · rcases set_cases hp with ⟨i1, i2⟩ | ⟨i1, i2⟩
    · subst i1; subst i2
      rw [hb] at hb'; cases hb'
      exact .inr ⟨ho, hn⟩
    · exact .inl ⟨i1, hb', i2⟩
theorem ERAt.none (hh : ERAt h sb rb base w A S bl F) {c' : List (Int × Nat)} {ws' : List Int} {log' : List Acc} (hs : RSys w' h sb rb F' base (rsl c') ws' log') (hk : Keep (fun k => F k ∨ k = sb) w w') (hf : Foot w F F') :
    (ERLies h sb rb base).To w A (⟨c', ws', log', S.ops⟩, bl) w' := by
  refine hh.to bl.length hs (hk.mono fun k _ e => ?_) hf hh.len (fun i b' p hb' hp => .inl ⟨?_, hb', hp⟩) (fun b hb => .inl hb) hh.apart
  · rcases e with e | e
    · exact .inl e
    · exact .inr (.inl e)
  · have := (List.getElem?_eq_some_iff.1 hb').1; omega
theorem ERAt.new (hh : ERAt h sb rb base w A S bl F) {o : EOp} {c' : List (Int × Nat)} (hs : RSys w' h sb rb F base (rsl c') S.ws S.log) (ho : EROp w' h w.heap.size o) (hk : Keep (fun k => k = sb) w w') :
    (ERLies h sb rb base).To w A (⟨c', S.ws, S.log, S.ops ++ [o]⟩, bl ++ [w.heap.size]) w' := by
  have nF : ¬ F w.heap.size := fun e => by have := hh.sys.mem.lt _ e; omega
  have old : ∀ (i b : Nat), bl[i]? = some b → b < w.heap.size := fun i b hb => hh.lt b ((hh.foot b).2 (.inr (.inr (.inr (List.mem_of_getElem? hb)))))
  refine hh.to bl.length hs (hk.mono fun k _ e => .inr (.inl e)) (fun k hk => .inl hk) (by simp [hh.len]) (fun i b' p hb' hp => ?_) (fun b hb => ?_) (fun i j b hi hj => ?_)
  · rcases get_snoc hb' with ⟨e1, e2⟩ | ⟨e1, e2⟩ <;> rcases get_snoc hp with ⟨e3, e4⟩ | ⟨e3, e4⟩
    · subst e2; subst e4; exact .inr ⟨ho, nF⟩
    · exact absurd (e1.trans hh.len) e3
    · exact absurd (e3.trans hh.len.symm) e1
    · exact .inl ⟨e1, e2, e4⟩
  · rcases List.mem_append.1 hb with e | e
    · exact .inl e
    · simp only [List.mem_singleton] at e; exact .inr (by omega)
  · rcases get_snoc hi with ⟨e1, e2⟩ | ⟨e1, e2⟩ <;> rcases get_snoc hj with ⟨e3, e4⟩ | ⟨e3, e4⟩
    · exact e1.trans e3.symm
    · have := old j b e4; omega
    · have := old i b e2; omega
    · exact hh.apart i j b e2 e4
theorem ERAt.same (hh : ERAt h sb rb base w A S bl F) (hk : Keep Nil w w') : (ERLies h sb rb base).To w A (S, bl) w' :=
  ⟨A, ⟨F, hh.keep hk (fun _ _ h => h)⟩, hk.mono (fun _ _ h => h.elim), fun _ h => .inl h⟩

def EOp.rstep : EOp → FuncId
  | .en _ _ _ _ => 84
  | .wa _ _ _ => 87
def EOp.rnextf : EOp → FuncId
  | .en _ _ _ _ => 82
  | .wa _ _ _ => 85
theorem ernext (hh : ERAt h sb rb base w A S bl F) {t b : Nat} {o : EOp} (hb : bl[t]? = some b) (ho : S.ops[t]? = some o) :
    Calls Try.prog (EOp.rnextf o) #[.pointer (some ⟨b, 0, none⟩)] w fun e w' => e = .returned (.int .u8 (EOp.pc o)) ∧ w = w' := by
  have ho2 := (hh.objs t b o hb ho).1
  cases o with
  | en t i v k => exact rfent_next ho2
  | wa t set s => obtain ⟨rs, h1, -⟩ := ho2; exact rfwnext h1
/-- The number that is remembered behind a step. -/
theorem rnext_ok (s : EWS) (set x rs : Int) (n : Nat) (h3 : s.st < 3) (h : s.st = 1 ∨ s.st = 2 → rs = s.seen) : (s.step n set x).st = 1 ∨ (s.step n set x).st = 2 → (if s.st = 0 then s.rnext x rs else rs) = (s.step n set x).seen := by
  have nx : ∀ u : EWS, (u.next n).st = 1 ∨ (u.next n).st = 2 → False := by
    intro u hu
    obtain ⟨-, -, a3⟩ := u.next_pos n
    omega
  intro hu
  rcases s.step_cases set x n with ⟨a, b, c⟩ | ⟨a, b, c⟩ | ⟨a, b, c⟩ | ⟨a, b, c⟩ | ⟨a, b, c⟩ | ⟨a, b, c⟩
  · rw [c, if_pos a]; unfold EWS.rnext; rw [if_pos ⟨a, b⟩]
  · rw [c] at hu; exact (nx _ hu).elim
  · rw [c, if_neg (by omega)]; exact h (.inl a)
  · rw [c] at hu; exact (nx _ hu).elim
  · rw [c, if_neg (by omega)]; exact h (.inr (by omega))
  · rw [c] at hu; exact (nx _ hu).elim
theorem erstep {b0 n K : Nat} (hh : ERAt h sb rb (b0 : Int) w A S bl F) (hok : S.ok b0 n K) (hb0 : b0 ≤ 20) (hn : n ≤ 9) (hK : K ≤ 1000) {t b : Nat} {o : EOp} (hb : bl[t]? = some b) (ho : S.ops[t]? = some o) {pc : Int} {d : Bool} (hst : EStep b0 n S t S' pc d) :
    Calls Try.prog (EOp.rstep o) #[.pointer (some ⟨b, 0, none⟩)] w fun e w' => e = .returned (.tuple #[.int .u8 pc, .bool d]) ∧ (ERLies h sb rb (b0 : Int)).To w A (S', bl) w' := by
  have lc := hok.lc
  have ll := hok.llog
  have le : (rsl S.c).length = n := by simp [rsl, lc]
  have hoo := hok.ops t o ho
  obtain ⟨hp, nF⟩ := hh.objs t b o hb ho
  cases hst with
  | @mark th i v y h1 hy =>
    rw [ho] at h1; cases h1
    obtain ⟨t0, t1, hi, v0, v1, -, -⟩ := hoo
    refine (rfent_mark hh.sys hp nF y t0 t1 v0 v1 (by omega) (by omega) (by omega) hy (by omega)).mono ?_
    rintro e w' ⟨rfl, F', q1, q2, q3, q4, q5⟩
    exact ⟨rfl, hh.one hb q1 q2 q3 q4 q5⟩
  | @seq th i v x y h1 hx hy =>
    rw [ho] at h1; cases h1
    obtain ⟨t0, t1, hi, v0, v1, -, -⟩ := hoo
    obtain ⟨x0, x1, -, -⟩ := hok.cok i _ hx
    simp only at x0 x1
    refine (rfent_seq hh.sys hp nF x y t0 t1 (rsl_at hx) x0 (by omega) (by omega) (by omega) (by omega) hy (by omega)).mono ?_
    rintro e w' ⟨rfl, F', q1, q2, q3, q4, q5⟩
    exact ⟨rfl, hh.one hb (by rw [rsl_set]; exact q1) q2 q3 q4 q5⟩
  | @idle th i v h1 =>
    rw [ho] at h1; cases h1
    refine (rfent_idle hp).mono ?_
    rintro e w' ⟨rfl, rfl⟩
    exact ⟨rfl, hh.same (Keep.refl _ _)⟩
  | @wait th set s x h1 hs hx =>
    rw [ho] at h1; cases h1
    obtain ⟨t0, t1, hset, h3, hpn⟩ := hoo
    have hpn := hpn hs
    obtain ⟨rs, hw, hrs⟩ := hp
    have hnx := rnext_ok s (set : Int) x rs n hs hrs
    have x0 := hok.wpos x (List.mem_of_getElem? hx)
    unfold EWS.addr at hx ⊢
    have : s.st = 0 ∨ s.st = 1 ∨ s.st = 2 := by omega
    rcases this with e | e | e
    · rw [if_neg (by omega), show (b0 : Int) + ((2 * s.pos + 0 : Nat) : Int) = (b0 : Int) + 2 * s.pos by omega] at hx
      rw [if_pos e, if_neg (show ¬ s.st = 1 by omega), show (b0 : Int) + ((2 * s.pos + 0 : Nat) : Int) = (b0 : Int) + 2 * s.pos by omega]
      have := rfwait_look hh.sys hw nF (by omega) e x x0 t0 t1 (by omega) (by omega) hx (by omega)
      rw [le] at this
      rw [if_pos e] at hnx
      refine this.mono ?_
      rintro e w' ⟨rfl, F', q1, q2, q3, q4, q5⟩
      exact ⟨rfl, hh.one hb q1 ⟨_, q2, hnx⟩ (q3.mono fun k _ e => e.elim .inl (fun e => .inr (.inr e))) q4 q5⟩
    · rw [if_pos e, show (b0 : Int) + ((2 * s.pos + 1 : Nat) : Int) = (b0 : Int) + 2 * s.pos + 1 by omega] at hx
      rw [if_neg (by omega), if_pos e, if_pos e, show (b0 : Int) + ((2 * s.pos + 1 : Nat) : Int) = (b0 : Int) + 2 * s.pos + 1 by omega]
      obtain ⟨u, hu, hx2⟩ := hok.vals s.pos hpn
      have hx3 := hx
      rw [show ((b0 : Int) + 2 * s.pos + 1).toNat = b0 + 2 * s.pos + 1 by omega, hx2] at hx3
      cases hx3
      have := rfwait_mark hh.sys hw nF (by omega) e u hu t0 t1 (by omega) (by omega) hx (by omega)
      rw [le] at this
      rw [if_neg (by omega)] at hnx
      refine this.mono ?_
      rintro e w' ⟨rfl, F', q1, q2, q3, q4, q5⟩
      exact ⟨rfl, hh.one hb q1 ⟨_, q2, hnx⟩ (q3.mono fun k _ e => e.elim .inl (fun e => .inr (.inr e))) q4 q5⟩
    · rw [if_neg (by omega), show (b0 : Int) + ((2 * s.pos + 0 : Nat) : Int) = (b0 : Int) + 2 * s.pos by omega] at hx
      rw [if_neg (by omega), if_neg (show ¬ s.st = 1 by omega), if_neg (show ¬ s.st = 1 by omega), if_pos e, show (b0 : Int) + ((2 * s.pos + 0 : Nat) : Int) = (b0 : Int) + 2 * s.pos by omega]
      have := rfwait_await hh.sys hw nF (by omega) e (hrs (.inr e)) x t0 t1 (by omega) (by omega) hx (by omega)
      rw [le] at this
      rw [if_neg (by omega)] at hnx
      refine this.mono ?_
      rintro e w' ⟨rfl, F', q1, q2, q3, q4, q5⟩
      exact ⟨rfl, hh.one hb q1 ⟨_, q2, hnx⟩ (q3.mono fun k _ e => e.elim .inl (fun e => .inr (.inr e))) q4 q5⟩
  | @over th set s h1 hs =>
    rw [ho] at h1; cases h1
    obtain ⟨rs, hw, hrs⟩ := hp
    refine (rfwait_idle hw hs).mono ?_
    rintro e w' ⟨rfl, rfl⟩
    exact ⟨rfl, hh.same (Keep.refl _ _)⟩
end
end Go.Proofs.Ytihgfklajhhikaa
