/- FullSteps: the program's engine and the reference's, side by side, with the operations that were begun. -/
import Derived.Test.YtckopbjejjeknaaRefFull3
namespace Go.Lf
/-- An operation by both: entering, or a wait. -/
inductive OpD where
  | en (a b : Nat) (t : Int) (i : Nat) (live : Bool)
  | wa (a b : Nat) (t : Int) (s : WS)
def OpD.a : OpD → Nat
  | .en a _ _ _ _ => a
  | .wa a _ _ _ => a
def OpD.b : OpD → Nat
  | .en _ b _ _ _ => b
  | .wa _ b _ _ => b
/-- A slot: its number; 0 idle, 1 begun, 2 entered. -/
def cnum (c : List (Int × Nat)) : List Int := c.map (·.1)
def cbeg (c : List (Int × Nat)) : List Bool := c.map (fun p => p.2 == 1)
def cref (c : List (Int × Nat)) : List (Int × Bool × Bool) := c.map fun p => (p.1, p.2 != 0, p.2 == 2)
def COk (c : List (Int × Nat)) (K : Int) : Prop := ∀ (i : Nat) (p : Int × Nat), c[i]? = some p → 0 ≤ p.1 ∧ p.1 ≤ K ∧ p.2 ≤ 2 ∧ (p.2 = 2 ↔ p.1 % 2 = 1)
def OpD.ok (n : Nat) (c : List (Int × Nat)) : OpD → Prop
  | .en _ _ t i live => 0 ≤ t ∧ t < 64 ∧ i < n ∧ (live = true → ∃ x, c[i]? = some (x, 1))
  | .wa _ _ t s => 0 ≤ t ∧ t < 64 ∧ s.st ≤ 2 ∧ (s.st < 2 → s.pos < n) ∧ (s.st = 1 → s.first % 2 = 1)
def OpD.slot : OpD → Option Nat
  | .en _ _ _ i true => some i
  | _ => none
theorem cnum_at {c : List (Int × Nat)} {i : Nat} {p : Int × Nat} (h : c[i]? = some p) : (cnum c)[i]? = some p.1 := by simp [cnum, h]
theorem cbeg_at {c : List (Int × Nat)} {i : Nat} {p : Int × Nat} (h : c[i]? = some p) : (cbeg c)[i]? = some (p.2 == 1) := by simp [cbeg, h]
theorem cref_at {c : List (Int × Nat)} {i : Nat} {p : Int × Nat} (h : c[i]? = some p) : (cref c)[i]? = some (p.1, p.2 != 0, p.2 == 2) := by simp [cref, h]
theorem cnum_set (c : List (Int × Nat)) (i : Nat) (p : Int × Nat) : cnum (c.set i p) = (cnum c).set i p.1 := by simp [cnum, List.map_set]
theorem cbeg_set (c : List (Int × Nat)) (i : Nat) (p : Int × Nat) : cbeg (c.set i p) = (cbeg c).set i (p.2 == 1) := by simp [cbeg, List.map_set]
theorem cref_set (c : List (Int × Nat)) (i : Nat) (p : Int × Nat) : cref (c.set i p) = (cref c).set i (p.1, p.2 != 0, p.2 == 2) := by simp [cref, List.map_set]
end Go.Lf
namespace Go.Proofs.Ytckopbjejjeknaa
open Go.RowKit Go.Lf
def opCells : OpD → List Value
  | .en a b _ _ _ => [.pointer (some ⟨a, 0, none⟩), .pointer (some ⟨b, 0, none⟩), .pointer none, .pointer none]
  | .wa a b _ _ => [.pointer none, .pointer none, .pointer (some ⟨a, 0, none⟩), .pointer (some ⟨b, 0, none⟩)]
def opsCells (l : List OpD) : List Value := l.flatMap opCells
theorem opCells_len (o : OpD) : (opCells o).length = 4 := by cases o <;> rfl
theorem opsCells_snoc (l : List OpD) (o : OpD) : opsCells (l ++ [o]) = opsCells l ++ opCells o := by simp [opsCells]
def OpAt (w : World) (g h : Nat) : OpD → Prop
  | .en a b t i live => EntAt w a g t i live ∧ REntAt w b h t i (!live)
  | .wa a b t s => WaitAt w a g t s ∧ RWaitAt w b h t s

section
variable {w wr w1 w2 : World} {g nb bb mb h sb rb : Nat} {F G F' G' S S1 S2 : Nat → Prop} {base : Int} {n K : Nat} {c c' : List (Int × Nat)} {ws ws' : List Int} {log log' : List Acc} {ops ops' : List OpD}
theorem OpAt.keep {o : OpD} (ho : OpAt wr g h o) (hk : Keep S wr w1) (h1 : ¬ S o.a) (h2 : ¬ S o.b) : OpAt w1 g h o := by
  cases o with
  | en a b t i live => exact ⟨hk.at ho.1 h1, hk.at ho.2 h2⟩
  | wa a b t s => exact ⟨hk.at ho.1 h1, hk.at ho.2 h2⟩
theorem OpAt.a_ne {o : OpD} (ho : OpAt wr g h o) {k : Nat} {cs : Array Value} {ty : TypeId} (hk : wr.heap[k]? = some (.cells cs ty (0, 0))) (h1 : ty ≠ 146) (h2 : ty ≠ 149) : o.a ≠ k := by
  cases o with
  | en a b t i live => exact type_ne ho.1 hk (fun e => h1 e.symm)
  | wa a b t s => exact type_ne ho.1 hk (fun e => h2 e.symm)
theorem OpAt.b_ne {o : OpD} (ho : OpAt wr g h o) {k : Nat} {cs : Array Value} {ty : TypeId} (hk : wr.heap[k]? = some (.cells cs ty (0, 0))) (h1 : ty ≠ 156) (h2 : ty ≠ 158) : o.b ≠ k := by
  cases o with
  | en a b t i live => exact type_ne ho.2 hk (fun e => h1 e.symm)
  | wa a b t s => exact type_ne ho.2 hk (fun e => h2 e.symm)
theorem OpAt.ab {o p : OpD} (ho : OpAt wr g h o) (hp : OpAt wr g h p) : o.a ≠ p.b := by
  cases p with
  | en a b t i live => exact ho.a_ne hp.2 (by decide) (by decide)
  | wa a b t s => exact ho.a_ne hp.2 (by decide) (by decide)
theorem OpAt.lt {o : OpD} (ho : OpAt wr g h o) : o.a < wr.heap.size ∧ o.b < wr.heap.size := by
  cases o with
  | en a b t i live => exact ⟨lt_of_block ho.1, lt_of_block ho.2⟩
  | wa a b t s => exact ⟨lt_of_block ho.1, lt_of_block ho.2⟩

structure JOp (w wr : World) (g h : Nat) (F G : Nat → Prop) (o : OpD) : Prop where
  at_ : OpAt wr g h o
  fa : ¬ F o.a
  ga : ¬ G o.a
  fb : ¬ F o.b
  gb : ¬ G o.b
  la : w.heap.size ≤ o.a
  lb : w.heap.size ≤ o.b
/-- Both engines over memories with the same words and accesses, and their operations. -/
structure J (w wr : World) (g nb bb mb h sb rb : Nat) (F G : Nat → Prop) (base : Int) (n : Nat) (c : List (Int × Nat)) (ws : List Int) (log : List Acc) (ops : List OpD) (K : Nat) : Prop where
  prog : FSys wr g nb bb mb F base (cnum c) (cbeg c) ws log
  ref : RSys wr h sb rb G base (cref c) ws log
  own : Keep Nil w wr
  ff : Foot w Nil F
  fg : Foot w Nil G
  ob : w.heap.size ≤ nb ∧ w.heap.size ≤ bb ∧ w.heap.size ≤ sb
  dis : ∀ k, F k → ¬ G k
  dF : ¬ F h ∧ ¬ F sb
  dG : ¬ G g ∧ ¬ G nb ∧ ¬ G bb
  lc : c.length = n
  lw : ws.length = base.toNat + n + 1
  wpos : ∀ x ∈ ws, 0 ≤ x
  llog : log.length ≤ K
  cok : COk c K
  objs : ∀ (i : Nat) (o : OpD), ops[i]? = some o → JOp w wr g h F G o ∧ o.ok n c
  apart : ∀ (i j : Nat) (o p : OpD), ops[i]? = some o → ops[j]? = some p → i ≠ j → o.a ≠ p.a ∧ o.b ≠ p.b
  solo : ∀ (i j : Nat) (o p : OpD) (s : Nat), ops[i]? = some o → ops[j]? = some p → i ≠ j → o.slot = some s → p.slot ≠ some s

theorem foot_ge {F : Nat → Prop} (h : Foot w Nil F) {k : Nat} (hk : F k) : w.heap.size ≤ k := (h k hk).elim (fun h => h.elim) id
/-- What the program's step leaves alone. -/
theorem J.out1 (hJ : J w wr g nb bb mb h sb rb F G base n c ws log ops K) {t : Nat} (hS1 : ∀ k, S1 k → k < wr.heap.size → F k ∨ k = nb ∨ k = bb ∨ ∃ o, ops[t]? = some o ∧ k = o.a) {k : Nat} {cs : Array Value} {ty : TypeId} (hb : wr.heap[k]? = some (.cells cs ty (0, 0))) (hF : ¬ F k) (h0 : ty ≠ 42) (h1 : ty ≠ 4) (h2 : ty ≠ 146) (h3 : ty ≠ 149) : ¬ S1 k := by
  intro hS
  rcases hS1 k hS (lt_of_block hb) with e | e | e | ⟨o, ho, e⟩
  · exact hF e
  · subst e; exact type_ne hb hJ.prog.eng.hnums h0 rfl
  · subst e; exact type_ne hb hJ.prog.eng.hbeg h1 rfl
  · exact (hJ.objs t o ho).1.at_.a_ne hb h2 h3 e.symm
/-- What the reference's step leaves alone. -/
theorem J.out2 (hJ : J w wr g nb bb mb h sb rb F G base n c ws log ops K) {t : Nat} (k1 : Keep S1 wr w1) (hS2 : ∀ k, S2 k → k < w1.heap.size → G k ∨ k = sb ∨ ∃ o, ops[t]? = some o ∧ k = o.b) {k : Nat} {cs : Array Value} {ty : TypeId} (hb : wr.heap[k]? = some (.cells cs ty (0, 0))) (hG : ¬ G k) (h1 : ty ≠ 153) (h2 : ty ≠ 156) (h3 : ty ≠ 158) : ¬ S2 k := by
  intro hS
  have := k1.size
  rcases hS2 k hS (by have := lt_of_block hb; omega) with e | e | ⟨o, ho, e⟩
  · exact hG e
  · subst e; exact type_ne hb hJ.ref.eng.slots h1 rfl
  · exact (hJ.objs t o ho).1.at_.b_ne hb h2 h3 e.symm
/-- The program's side has made a step, then the reference's; at most operation t has turned. -/
theorem J.two (hJ : J w wr g nb bb mb h sb rb F G base n c ws log ops K) (t : Nat)
    (hs1 : FSys w1 g nb bb mb F' base (cnum c') (cbeg c') ws' log') (k1 : Keep S1 wr w1) (f1 : Foot wr F F') (hS1 : ∀ k, S1 k → k < wr.heap.size → F k ∨ k = nb ∨ k = bb ∨ ∃ o, ops[t]? = some o ∧ k = o.a)
    (hs2 : RSys w2 h sb rb G' base (cref c') ws' log') (k2 : Keep S2 w1 w2) (f2 : Foot w1 G G') (hS2 : ∀ k, S2 k → k < w1.heap.size → G k ∨ k = sb ∨ ∃ o, ops[t]? = some o ∧ k = o.b)
    (K' : Nat) (hlc : c'.length = n) (hlw : ws'.length = ws.length) (hwp : ∀ x ∈ ws', 0 ≤ x) (hll : log'.length ≤ K') (hco : COk c' K')
    (hold : ∀ (i : Nat) (o : OpD), ops'[i]? = some o → (i ≠ t ∧ ops[i]? = some o ∧ o.ok n c') ∨ (OpAt w2 g h o ∧ o.ok n c' ∧ ((∃ o0, ops[t]? = some o0 ∧ o.a = o0.a ∧ o.b = o0.b) ∨ (o.a = wr.heap.size ∧ o.b = w1.heap.size ∧ wr.heap.size < w1.heap.size ∧ (∀ k, F' k → F k) ∧ (∀ k, G' k → G k)))))
    (hap : ∀ (i j : Nat) (o p : OpD), ops'[i]? = some o → ops'[j]? = some p → i ≠ j → o.a ≠ p.a ∧ o.b ≠ p.b)
    (hso : ∀ (i j : Nat) (o p : OpD) (s : Nat), ops'[i]? = some o → ops'[j]? = some p → i ≠ j → o.slot = some s → p.slot ≠ some s) :
    J w w2 g nb bb mb h sb rb F' G' base n c' ws' log' ops' K' := by
  have z1 := k1.size
  have z0 := hJ.own.size
  have hg := lt_of_block hJ.prog.eng.head
  have hnb := lt_of_block hJ.prog.eng.hnums
  have hbb := lt_of_block hJ.prog.eng.hbeg
  have hh := lt_of_block hJ.ref.eng.head
  have hsb := lt_of_block hJ.ref.eng.slots
  have nF : ∀ k : Nat, ¬ F k → k < wr.heap.size → ¬ F' k := fun k a b d => (f1 k d).elim a (fun e => by omega)
  have nG : ∀ k : Nat, ¬ G k → k < w1.heap.size → ¬ G' k := fun k a b d => (f2 k d).elim a (fun e => by omega)
  have ltG : ∀ k, G k → k < wr.heap.size := hJ.ref.mem.lt
  have ltF' : ∀ k, F' k → k < w1.heap.size := hs1.mem.lt
  have ot : ∀ o, ops[t]? = some o → JOp w wr g h F G o := fun o ho => (hJ.objs t o ho).1
  -- what lies beyond S2
  have d2 : ∀ k, F' k → ¬ S2 k := by
    intro k hk hS
    rcases hS2 k hS (ltF' k hk) with e | e | ⟨o, ho, e⟩
    · rcases f1 k hk with e' | e'
      · exact hJ.dis k e' e
      · have := ltG k e; omega
    · subst e; exact nF _ hJ.dF.2 hsb hk
    · subst e; exact nF _ (ot o ho).fb (ot o ho).at_.lt.2 hk
  have g2 : ∀ (k : Nat) (cs : Array Value) (ty : TypeId), wr.heap[k]? = some (.cells cs ty (0, 0)) → ¬ G k → ty ≠ 153 → ty ≠ 156 → ty ≠ 158 → ¬ S2 k :=
    fun k cs ty hb hG h1 h2 h3 => hJ.out2 k1 hS2 hb hG h1 h2 h3
  have kw : Keep Nil w w2 := by
    have a1 : Keep Nil w w1 := hJ.own.trans k1 (fun j hj hS => by
      rcases hS1 j hS (by omega) with e | e | e | ⟨o, ho, e⟩
      · have := foot_ge hJ.ff e; omega
      · have := hJ.ob.1; omega
      · have := hJ.ob.2.1; omega
      · have := (ot o ho).la; omega)
    exact a1.trans k2 (fun j hj hS => by
      rcases hS2 j hS (by omega) with e | e | ⟨o, ho, e⟩
      · have := foot_ge hJ.fg e; omega
      · have := hJ.ob.2.2; omega
      · have := (ot o ho).lb; omega)
  refine ⟨hs1.keep k2 d2 (g2 g _ _ hJ.prog.eng.head hJ.dG.1 (by decide) (by decide) (by decide)) (g2 nb _ _ hJ.prog.eng.hnums hJ.dG.2.1 (by decide) (by decide) (by decide)) (g2 bb _ _ hJ.prog.eng.hbeg hJ.dG.2.2 (by decide) (by decide) (by decide)), hs2, kw, ?_, ?_, hJ.ob, ?_, ⟨nF _ hJ.dF.1 hh, nF _ hJ.dF.2 hsb⟩, ⟨nG _ hJ.dG.1 (by omega), nG _ hJ.dG.2.1 (by omega), nG _ hJ.dG.2.2 (by omega)⟩, hlc, hlw.trans hJ.lw, hwp, hll, hco, ?_, hap, hso⟩
  · exact fun k hk => (f1 k hk).elim (fun e => .inr (foot_ge hJ.ff e)) (fun e => .inr (by omega))
  · exact fun k hk => (f2 k hk).elim (fun e => .inr (foot_ge hJ.fg e)) (fun e => .inr (by omega))
  · intro k hF hG
    rcases f2 k hG with e | e
    · rcases f1 k hF with e' | e'
      · exact hJ.dis k e' e
      · have := ltG k e; omega
    · have := ltF' k hF; omega
  · intro i o ho
    rcases hold i o ho with ⟨hi, ho0, hok⟩ | ⟨hat, hok, hwhere⟩
    · obtain ⟨j, -⟩ := hJ.objs i o ho0
      obtain ⟨l1, l2⟩ := j.at_.lt
      refine ⟨⟨(j.at_.keep k1 ?_ ?_).keep k2 ?_ ?_, nF _ j.fa l1, nG _ j.ga (by omega), nF _ j.fb l2, nG _ j.gb (by omega), j.la, j.lb⟩, hok⟩
      · intro hS
        rcases hS1 _ hS l1 with e | e | e | ⟨q, hq, e⟩
        · exact j.fa e
        · exact j.at_.a_ne hJ.prog.eng.hnums (by decide) (by decide) e
        · exact j.at_.a_ne hJ.prog.eng.hbeg (by decide) (by decide) e
        · exact (hJ.apart i t o q ho0 hq hi).1 e
      · intro hS
        rcases hS1 _ hS l2 with e | e | e | ⟨q, hq, e⟩
        · exact j.fb e
        · exact j.at_.b_ne hJ.prog.eng.hnums (by decide) (by decide) e
        · exact j.at_.b_ne hJ.prog.eng.hbeg (by decide) (by decide) e
        · exact (ot q hq).at_.ab j.at_ e.symm
      · intro hS
        rcases hS2 _ hS (by omega) with e | e | ⟨q, hq, e⟩
        · exact j.ga e
        · exact j.at_.a_ne hJ.ref.eng.slots (by decide) (by decide) e
        · exact j.at_.ab (ot q hq).at_ e
      · intro hS
        rcases hS2 _ hS (by omega) with e | e | ⟨q, hq, e⟩
        · exact j.gb e
        · exact j.at_.b_ne hJ.ref.eng.slots (by decide) (by decide) e
        · exact (hJ.apart i t o q ho0 hq hi).2 e
    · rcases hwhere with ⟨q, hq, ea, eb⟩ | ⟨ea, eb, hlt, hFF, hGG⟩
      · obtain j := ot q hq
        obtain ⟨l1, l2⟩ := j.at_.lt
        refine ⟨⟨hat, ?_, ?_, ?_, ?_, ?_, ?_⟩, hok⟩
        · rw [ea]; exact nF _ j.fa l1
        · rw [ea]; exact nG _ j.ga (by omega)
        · rw [eb]; exact nF _ j.fb l2
        · rw [eb]; exact nG _ j.gb (by omega)
        · rw [ea]; exact j.la
        · rw [eb]; exact j.lb
      · refine ⟨⟨hat, ?_, ?_, ?_, ?_, by omega, by omega⟩, hok⟩
        · rw [ea]; exact fun e => by have := hJ.prog.mem.lt _ (hFF _ e); omega
        · rw [ea]; exact fun e => by have := ltG _ (hGG _ e); omega
        · rw [eb]; exact fun e => by have := hJ.prog.mem.lt _ (hFF _ e); omega
        · rw [eb]; exact fun e => by have := ltG _ (hGG _ e); omega
theorem J.quiet (hJ : J w wr g nb bb mb h sb rb F G base n c ws log ops K) (hk : Keep Nil wr w1) : J w w1 g nb bb mb h sb rb F G base n c ws log ops K :=
  ⟨hJ.prog.keep hk (fun _ _ h => h) (fun h => h) (fun h => h) (fun h => h), hJ.ref.quiet hk, hJ.own.trans hk (fun _ _ h => h), hJ.ff, hJ.fg, hJ.ob, hJ.dis, hJ.dF, hJ.dG, hJ.lc, hJ.lw, hJ.wpos, hJ.llog, hJ.cok,
   fun i o ho => ⟨⟨(hJ.objs i o ho).1.at_.keep hk (fun h => h) (fun h => h), (hJ.objs i o ho).1.fa, (hJ.objs i o ho).1.ga, (hJ.objs i o ho).1.fb, (hJ.objs i o ho).1.gb, (hJ.objs i o ho).1.la, (hJ.objs i o ho).1.lb⟩, (hJ.objs i o ho).2⟩, hJ.apart, hJ.solo⟩
theorem J.mono (hJ : J w wr g nb bb mb h sb rb F G base n c ws log ops K) {K' : Nat} (hK : K ≤ K') : J w wr g nb bb mb h sb rb F G base n c ws log ops K' :=
  ⟨hJ.prog, hJ.ref, hJ.own, hJ.ff, hJ.fg, hJ.ob, hJ.dis, hJ.dF, hJ.dG, hJ.lc, hJ.lw, hJ.wpos, by have := hJ.llog; omega, fun i p hp => by obtain ⟨a, b, c, d⟩ := hJ.cok i p hp; exact ⟨a, by omega, c, d⟩, hJ.objs, hJ.apart, hJ.solo⟩
end
end Go.Proofs.Ytckopbjejjeknaa
