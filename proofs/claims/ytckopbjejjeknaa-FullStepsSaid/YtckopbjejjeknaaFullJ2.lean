/- FullSteps: a step of an operation by both. -/
import Derived.Test.YtckopbjejjeknaaFullJ
import Derived.Test.YtckopbjejjeknaaFullStepW
import Derived.Test.YtckopbjejjeknaaIndex
namespace Go.Proofs.Ytckopbjejjeknaa
open Go.RowKit Go.Lf
section
variable {w wr : World} {g nb bb mb h sb rb : Nat} {F G : Nat → Prop} {base : Int} {n K : Nat} {c : List (Int × Nat)} {ws : List Int} {log : List Acc} {ops : List OpD}
/-- What stands after an event: the same rows of blocks but for the operations' states. -/
def JTo (w wr : World) (g nb bb mb h sb rb : Nat) (F G : Nat → Prop) (base : Int) (n : Nat) (ops : List OpD) (K : Nat) (w' : World) : Prop :=
  ∃ F' G' c' ws' log' ops', J w w' g nb bb mb h sb rb F' G' base n c' ws' log' ops' K ∧ ops'.length = ops.length ∧ opsCells ops' = opsCells ops ∧
    ∀ (k : Nat) (cs : Array Value), wr.heap[k]? = some (.cells cs 106 (0, 0)) → ¬ F k → ¬ G k → w'.heap[k]? = some (.cells cs 106 (0, 0)) ∧ ¬ F' k ∧ ¬ G' k
theorem opsCells_set {t : Nat} {o o' : OpD} (ho : ops[t]? = some o) (hc : opCells o' = opCells o) : opsCells (ops.set t o') = opsCells ops := flat7_same opCells ops ho hc
theorem J.quietTo (hJ : J w wr g nb bb mb h sb rb F G base n c ws log ops K) {w' : World} (hk : Keep Nil wr w') {K' : Nat} (hK : K ≤ K') : JTo w wr g nb bb mb h sb rb F G base n ops K' w' :=
  ⟨F, G, c, ws, log, ops, (hJ.quiet hk).mono hK, rfl, rfl, fun _ _ h1 h2 h3 => ⟨hk.at h1 (fun h => h), h2, h3⟩⟩
/-- One operation has turned. -/
theorem J.one (hJ : J w wr g nb bb mb h sb rb F G base n c ws log ops K) {w1 w2 : World} {F' G' S1 S2 : Nat → Prop} {c' : List (Int × Nat)} {ws' : List Int} {log' : List Acc} {t : Nat} {o o' : OpD} (ho : ops[t]? = some o) (ha : o'.a = o.a) (hb : o'.b = o.b) (hcl : opCells o' = opCells o) (hsl : ∀ s, o'.slot = some s → o.slot = some s)
    (hs1 : FSys w1 g nb bb mb F' base (cnum c') (cbeg c') ws' log') (k1 : Keep S1 wr w1) (f1 : Foot wr F F') (hS1 : ∀ k, S1 k → k < wr.heap.size → F k ∨ k = nb ∨ k = bb ∨ k = o.a)
    (hs2 : RSys w2 h sb rb G' base (cref c') ws' log') (k2 : Keep S2 w1 w2) (f2 : Foot w1 G G') (hS2 : ∀ k, S2 k → k < w1.heap.size → G k ∨ k = sb ∨ k = o.b)
    (hlc : c'.length = n) (hlw : ws'.length = ws.length) (hwp : ∀ x ∈ ws', 0 ≤ x) (hll : log'.length ≤ K + 1) (hco : COk c' ((K + 1 : Nat) : Int))
    (hat : OpAt w2 g h o') (hok : o'.ok n c') (hold : ∀ (i : Nat) (p : OpD), i ≠ t → ops[i]? = some p → p.ok n c') :
    JTo w wr g nb bb mb h sb rb F G base n ops (K + 1) w2 := by
  have e1 : ∀ k, S1 k → k < wr.heap.size → F k ∨ k = nb ∨ k = bb ∨ ∃ o, ops[t]? = some o ∧ k = o.a := fun k a b => by
    rcases hS1 k a b with e | e | e | e
    · exact .inl e
    · exact .inr (.inl e)
    · exact .inr (.inr (.inl e))
    · exact .inr (.inr (.inr ⟨o, ho, e⟩))
  have e2 : ∀ k, S2 k → k < w1.heap.size → G k ∨ k = sb ∨ ∃ o, ops[t]? = some o ∧ k = o.b := fun k a b => by
    rcases hS2 k a b with e | e | e
    · exact .inl e
    · exact .inr (.inl e)
    · exact .inr (.inr ⟨o, ho, e⟩)
  refine ⟨F', G', c', ws', log', ops.set t o', ?_, by simp, opsCells_set ho hcl, fun k cs hk h1 h2 => ⟨?_, ?_, ?_⟩⟩
  · refine hJ.two t hs1 k1 f1 e1 hs2 k2 f2 e2 (K + 1) hlc hlw hwp hll hco (fun i p hp => ?_) (fun i j p q hp hq hij => ?_) (fun i j p q s hp hq hij hs => ?_)
    · rcases set_cases hp with ⟨i1, i2⟩ | ⟨i1, i2⟩
      · subst i2; exact .inr ⟨hat, hok, .inl ⟨o, ho, ha, hb⟩⟩
      · exact .inl ⟨i1, i2, hold i p i1 i2⟩
    · rcases set_cases hp with ⟨i1, i2⟩ | ⟨i1, i2⟩ <;> rcases set_cases hq with ⟨j1, j2⟩ | ⟨j1, j2⟩
      · exact absurd (i1.trans j1.symm) hij
      · subst i2; rw [ha, hb]; exact hJ.apart t j o q ho j2 (fun e => j1 e.symm)
      · subst j2; rw [ha, hb]; exact hJ.apart i t p o i2 ho i1
      · exact hJ.apart i j p q i2 j2 hij
    · rcases set_cases hp with ⟨i1, i2⟩ | ⟨i1, i2⟩ <;> rcases set_cases hq with ⟨j1, j2⟩ | ⟨j1, j2⟩
      · exact absurd (i1.trans j1.symm) hij
      · subst i2; exact hJ.solo t j o q s ho j2 (fun e => j1 e.symm) (hsl s hs)
      · subst j2; exact fun e => hJ.solo i t p o s i2 ho i1 hs (hsl s e)
      · exact hJ.solo i j p q s i2 j2 hij hs
  · exact k2.at (k1.at hk (hJ.out1 e1 hk h1 (by decide) (by decide) (by decide) (by decide))) (hJ.out2 k1 e2 hk h2 (by decide) (by decide) (by decide))
  · exact fun e => (f1 k e).elim h1 (fun e => by have := lt_of_block hk; omega)
  · exact fun e => (f2 k e).elim h2 (fun e => by have := lt_of_block hk; have := k1.size; omega)

theorem COk.put {c : List (Int × Nat)} {K : Nat} (h : COk c K) {i : Nat} {x : Int} {s : Nat} (x0 : 0 ≤ x) (x1 : x ≤ K + 1) (s0 : s ≤ 2) (s1 : s = 2 ↔ x % 2 = 1) : COk (c.set i (x, s)) ((K + 1 : Nat) : Int) := by
  intro j p hp
  rcases set_cases hp with ⟨-, e⟩ | ⟨-, e⟩
  · subst e; exact ⟨x0, by simp only; omega, s0, s1⟩
  · obtain ⟨a, b, d, e⟩ := h j p e; exact ⟨a, by omega, d, e⟩
theorem pos_set {ws : List Int} (h : ∀ x ∈ ws, 0 ≤ x) {i : Nat} {v : Int} (hv : 0 ≤ v) : ∀ x ∈ ws.set i v, 0 ≤ x := fun x hx => by
  rcases List.mem_or_eq_of_mem_set hx with e | e
  · exact h x e
  · omega

theorem JTo.after {w0 w1 w2 : World} {ops0 : List OpD} (hT : JTo w w0 g nb bb mb h sb rb F G base n ops0 K w1) (k0 : Keep Nil wr w0) (k2 : Keep Nil w1 w2) : JTo w wr g nb bb mb h sb rb F G base n ops0 K w2 := by
  obtain ⟨F', G', c', ws', log', ops', hj, h1, h2, h3⟩ := hT
  refine ⟨F', G', c', ws', log', ops', hj.quiet k2, h1, h2, fun k cs hk hF hG => ?_⟩
  obtain ⟨e1, e2, e3⟩ := h3 k cs (k0.at hk (fun h => h)) hF hG
  exact ⟨k2.at e1 (fun h => h), e2, e3⟩
/-- Of a step by the program alone: what the reference has stands. -/
theorem J.refAt (hJ : J w wr g nb bb mb h sb rb F G base n c ws log ops K) {w1 : World} {S1 : Nat → Prop} {t : Nat} (k1 : Keep S1 wr w1) (hS1 : ∀ k, S1 k → k < wr.heap.size → F k ∨ k = nb ∨ k = bb ∨ ∃ o, ops[t]? = some o ∧ k = o.a) : RSys w1 h sb rb G base (cref c) ws log := by
  refine hJ.ref.keep k1 (fun k hG hS => ?_) (hJ.out1 hS1 hJ.ref.eng.head hJ.dF.1 (by decide) (by decide) (by decide) (by decide)) (hJ.out1 hS1 hJ.ref.eng.slots hJ.dF.2 (by decide) (by decide) (by decide) (by decide))
  rcases hS1 k hS (hJ.ref.mem.lt k hG) with e | e | e | ⟨o, ho, e⟩
  · exact hJ.dis k e hG
  · subst e; exact hJ.dG.2.1 hG
  · subst e; exact hJ.dG.2.2 hG
  · subst e; exact (hJ.objs t o ho).1.ga hG

theorem jstep_en (hJ : J w wr g nb bb mb h sb rb F G base n c ws log ops K) (hK : K ≤ 1000) (b0 : 0 ≤ base) (b1 : base ≤ 20) (hn : n ≤ 9) {t : Nat} {a b : Nat} {th : Int} {i : Nat} (ho : ops[t]? = some (.en a b th i true)) :
    Calls Try.prog 51 #[.agg (opCells (.en a b th i true)).toArray] wr fun e w' => e = .returned (.bool true) ∧ JTo w wr g nb bb mb h sb rb F G base n ops (K + 1) w' := by
  have kA : Keep Nil wr (wr.alloc (.cells #[.pointer (some ⟨a, 0, none⟩), .pointer (some ⟨b, 0, none⟩), .pointer none, .pointer none] 106)) := (Keep.refl Nil wr).alloc _
  have hxb := heap_alloc_new wr (.cells #[.pointer (some ⟨a, 0, none⟩), .pointer (some ⟨b, 0, none⟩), .pointer none, .pointer none] 106)
  have J1 := hJ.quiet kA
  have nFx : ¬ F wr.heap.size := fun e => by have := hJ.prog.mem.lt _ e; omega
  have nGx : ¬ G wr.heap.size := fun e => by have := hJ.ref.mem.lt _ e; omega
  obtain ⟨W0, hW0⟩ : ∃ W0, W0 = wr.alloc (.cells #[.pointer (some ⟨a, 0, none⟩), .pointer (some ⟨b, 0, none⟩), .pointer none, .pointer none] 106) := ⟨_, rfl⟩
  rw [← hW0] at kA hxb J1
  obtain ⟨j, t0, t1, hi, hc⟩ := J1.objs t _ ho
  obtain ⟨x, hx⟩ := hc rfl
  obtain ⟨x0, x1, -, x2⟩ := J1.cok i _ hx
  simp only at x0 x1 x2
  have hev : x % 2 = 0 := by have : ¬ x % 2 = 1 := fun e => by have := x2.2 e; omega
                             omega
  obtain ⟨ea, eb⟩ := j.at_
  have eb : REntAt W0 b h th i false := eb
  have lw := J1.lw
  have lc := J1.lc
  have ll := J1.llog
  obtain ⟨y, hy⟩ : ∃ y, ws[(base + i).toNat]? = some y := ⟨_, List.getElem?_eq_getElem (by omega)⟩
  have bnd1 : (cnum c).length < 1000000 := by simp [cnum, lc]; omega
  have bnd2 : (cref c).length < 1000000 := by simp [cref, lc]; omega
  have e1 : ∀ k, (F k ∨ k = nb ∨ k = bb ∨ k = a) → k < W0.heap.size → F k ∨ k = nb ∨ k = bb ∨ ∃ o, ops[t]? = some o ∧ k = o.a := fun k hk _ => by
    rcases hk with e | e | e | e
    · exact .inl e
    · exact .inr (.inl e)
    · exact .inr (.inr (.inl e))
    · exact .inr (.inr (.inr ⟨_, ho, e⟩))
  have e2 : ∀ k, (G k ∨ k = sb ∨ k = b) → True → G k ∨ k = sb ∨ ∃ o, ops[t]? = some o ∧ k = o.b := fun k hk _ => by
    rcases hk with e | e | e
    · exact .inl e
    · exact .inr (.inl e)
    · exact .inr (.inr ⟨_, ho, e⟩)
  have hS := opstep_en (wr := wr) (a := a) (b := b) (p0 := 13) (p2 := 0) (pc := 13) (d := true)
    (fun w1 => FEntTo W0 g nb bb mb F base ((cnum c).set i (x + 1)) ((cbeg c).set i false) (ws.set (base + i).toNat (x + 1)) (log ++ [⟨th, base + i, 2, y, x + 1, false⟩]) a th i w1)
    (fun w2 => ∃ w1, FEntTo W0 g nb bb mb F base ((cnum c).set i (x + 1)) ((cbeg c).set i false) (ws.set (base + i).toNat (x + 1)) (log ++ [⟨th, base + i, 2, y, x + 1, false⟩]) a th i w1 ∧ RFEntTo w1 h sb rb G base ((cref c).set i (x + 1, true, true)) (ws.set (base + i).toNat (x + 1)) (log ++ [⟨th, base + i, 2, y, x + 1, false⟩]) b th i w2)
  rw [← hW0] at hS
  refine (hS (rfent_next eb) (fent_next ea) (fent_step J1.prog ea j.fa x y t0 t1 (cnum_at hx) x0 (by omega) b0 (by omega) bnd1 hy (by omega)) ?_ ?_ ?_ ?_ ?_).mono ?_
  · rintro w1 ⟨F', -, -, hk, -, -⟩
    have := hk.at hxb (J1.out1 e1 hxb nFx (by decide) (by decide) (by decide) (by decide))
    rw [cell_of this]; rfl
  · rintro w1 ⟨F', q1, q2, hk, hf, q3⟩
    have hr := J1.refAt hk e1
    have hb1 : REntAt w1 b h th i false := hk.at eb (fun hS => by
      rcases hS with e | e | e | e
      · exact j.fb e
      · exact j.at_.b_ne J1.prog.eng.hnums (by decide) (by decide) e
      · exact j.at_.b_ne J1.prog.eng.hbeg (by decide) (by decide) e
      · exact j.at_.ab j.at_ e.symm)
    refine (rfent_step hr hb1 j.gb x y t0 t1 (cref_at hx) x0 (by omega) b0 (by omega) bnd2 hy (by omega)).mono ?_
    rintro e w2 ⟨h1, h2⟩
    exact ⟨h1, w1, ⟨F', q1, q2, hk, hf, q3⟩, h2⟩
  · rintro w2 ⟨w1, ⟨F', -, -, hk, -, -⟩, ⟨G', -, -, hk2, -, -⟩⟩
    have h1 := hk.at hxb (J1.out1 e1 hxb nFx (by decide) (by decide) (by decide) (by decide))
    have h2 := hk2.at h1 (J1.out2 hk (fun k hk _ => e2 k hk trivial) hxb nGx (by decide) (by decide) (by decide))
    constructor <;> (rw [cell_of h2]; rfl)
  · rintro w2 m ⟨w1, ⟨F', -, q2, hk, -, -⟩, ⟨G', -, -, hk2, -, -⟩⟩
    have h1 : EntAt (w2.drewN m) a g th i false := (hk2.drewN m).at q2 (fun hS => by
      rcases hS with e | e | e
      · exact j.ga e
      · exact j.at_.a_ne J1.ref.eng.slots (by decide) (by decide) e
      · exact j.at_.ab j.at_ e)
    exact fent_next h1
  · rintro w2 m ⟨w1, -, ⟨G', -, q2, -, -, -⟩⟩
    have h1 : REntAt (w2.drewN m) b h th i true := ((Keep.refl Nil w2).drewN m).at q2 (fun h => h)
    exact rfent_next h1
  · rintro e w' ⟨rfl, w2, m, ⟨w1, ⟨F', q1, q2, hk, hf, q3⟩, ⟨G', r1, r2, hk2, hf2, r3⟩⟩, rfl⟩
    refine ⟨rfl, ?_⟩
    have hcc : ∀ (i' : Nat) (p : OpD), i' ≠ t → ops[i']? = some p → p.ok n (c.set i (x + 1, 2)) := by
      intro i' p hi' hp
      have hok := (J1.objs i' p hp).2
      cases p with
      | wa => exact hok
      | en a' b' t' s' live =>
        obtain ⟨k1, k2, k3, k4⟩ := hok
        refine ⟨k1, k2, k3, fun hl => ?_⟩
        subst hl
        obtain ⟨z, hz⟩ := k4 rfl
        have hne : i ≠ s' := fun e => by
          subst e
          exact J1.solo i' t _ _ i hp ho hi' rfl rfl
        exact ⟨z, by rw [List.getElem?_set, if_neg hne]; exact hz⟩
    have hone := J1.one (o' := .en a b th i false) (c' := c.set i (x + 1, 2)) (ws' := ws.set (base + i).toNat (x + 1)) ho rfl rfl rfl (fun s hs => by cases hs)
      (by rw [cnum_set, cbeg_set]; exact q1) hk hf (fun k hk _ => hk) (by rw [cref_set]; exact r1) hk2 hf2 (fun k hk _ => hk) (by simp [lc]) (by simp) (pos_set J1.wpos (by omega)) (by simp; omega)
      (COk.put J1.cok (by omega) (by omega) (by omega) (by constructor <;> (intro _; omega))) ⟨hk2.at q2 (fun hS => by
        rcases hS with e | e | e
        · exact j.ga e
        · exact j.at_.a_ne J1.ref.eng.slots (by decide) (by decide) e
        · exact j.at_.ab j.at_ e), r2⟩ ⟨t0, t1, hi, fun h => by cases h⟩ hcc
    exact hone.after kA ((Keep.refl Nil w2).drewN m)
theorem jstep_en0 (hJ : J w wr g nb bb mb h sb rb F G base n c ws log ops K) {t : Nat} {a b : Nat} {th : Int} {i : Nat} (ho : ops[t]? = some (.en a b th i false)) :
    Calls Try.prog 51 #[.agg (opCells (.en a b th i false)).toArray] wr fun e w' => e = .returned (.bool true) ∧ JTo w wr g nb bb mb h sb rb F G base n ops (K + 1) w' := by
  have kA : Keep Nil wr (wr.alloc (.cells #[.pointer (some ⟨a, 0, none⟩), .pointer (some ⟨b, 0, none⟩), .pointer none, .pointer none] 106)) := (Keep.refl Nil wr).alloc _
  have hxb := heap_alloc_new wr (.cells #[.pointer (some ⟨a, 0, none⟩), .pointer (some ⟨b, 0, none⟩), .pointer none, .pointer none] 106)
  have J1 := hJ.quiet kA
  obtain ⟨W0, hW0⟩ : ∃ W0, W0 = wr.alloc (.cells #[.pointer (some ⟨a, 0, none⟩), .pointer (some ⟨b, 0, none⟩), .pointer none, .pointer none] 106) := ⟨_, rfl⟩
  rw [← hW0] at kA hxb J1
  obtain ⟨j, -⟩ := J1.objs t _ ho
  obtain ⟨ea, eb⟩ := j.at_
  have eb : REntAt W0 b h th i true := eb
  have hS := opstep_en (wr := wr) (a := a) (b := b) (p0 := 0) (p2 := 0) (pc := 0) (d := false) (fun w1 => W0 = w1) (fun w2 => W0 = w2)
  rw [← hW0] at hS
  refine (hS (rfent_next eb) (fent_next ea) (fent_idle ea) ?_ ?_ ?_ ?_ ?_).mono ?_
  · rintro w1 rfl; rw [cell_of hxb]; rfl
  · rintro w1 rfl; exact rfent_idle eb
  · rintro w2 rfl; constructor <;> (rw [cell_of hxb]; rfl)
  · rintro w2 m rfl; exact fent_next (show EntAt (W0.drewN m) a g th i false from ((Keep.refl Nil W0).drewN m).at ea (fun h => h))
  · rintro w2 m rfl; exact rfent_next (show REntAt (W0.drewN m) b h th i true from ((Keep.refl Nil W0).drewN m).at eb (fun h => h))
  · rintro e w' ⟨rfl, w2, m, rfl, rfl⟩
    exact ⟨rfl, hJ.quietTo (kA.drewN m) (by omega)⟩
theorem jstep_wa0 (hJ : J w wr g nb bb mb h sb rb F G base n c ws log ops K) {t : Nat} {a b : Nat} {th : Int} {s : WS} (ho : ops[t]? = some (.wa a b th s)) (hst : 2 ≤ s.st) :
    Calls Try.prog 51 #[.agg (opCells (.wa a b th s)).toArray] wr fun e w' => e = .returned (.bool true) ∧ JTo w wr g nb bb mb h sb rb F G base n ops (K + 1) w' := by
  have kA : Keep Nil wr (wr.alloc (.cells #[.pointer none, .pointer none, .pointer (some ⟨a, 0, none⟩), .pointer (some ⟨b, 0, none⟩)] 106)) := (Keep.refl Nil wr).alloc _
  have hxb := heap_alloc_new wr (.cells #[.pointer none, .pointer none, .pointer (some ⟨a, 0, none⟩), .pointer (some ⟨b, 0, none⟩)] 106)
  have J1 := hJ.quiet kA
  obtain ⟨W0, hW0⟩ : ∃ W0, W0 = wr.alloc (.cells #[.pointer none, .pointer none, .pointer (some ⟨a, 0, none⟩), .pointer (some ⟨b, 0, none⟩)] 106) := ⟨_, rfl⟩
  rw [← hW0] at kA hxb J1
  obtain ⟨j, -⟩ := J1.objs t _ ho
  obtain ⟨ea, eb⟩ := j.at_
  have hS := opstep_wa (wr := wr) (a := a) (b := b) (p0 := 0) (p2 := 0) (pc := 0) (d := false) (fun w1 => W0 = w1) (fun w2 => W0 = w2)
  rw [← hW0] at hS
  have rn : ∀ W, RWaitAt W b h th s → Calls Try.prog 78 #[.pointer (some ⟨b, 0, none⟩)] W fun e w' => e = .returned (.int .u8 0) ∧ W = w' := fun W hW => by
    have := rfwnext hW
    rwa [if_pos hst] at this
  refine (hS (rn _ eb) (fwnext_idle ea hst) (fwait_idle ea hst) ?_ ?_ ?_ ?_ ?_).mono ?_
  · rintro w1 rfl; rw [cell_of hxb]; rfl
  · rintro w1 rfl; exact rfwait_idle eb hst
  · rintro w2 rfl; constructor <;> (rw [cell_of hxb]; rfl)
  · rintro w2 m rfl; exact fwnext_idle (show WaitAt (W0.drewN m) a g th s from ((Keep.refl Nil W0).drewN m).at ea (fun h => h)) hst
  · rintro w2 m rfl; exact rn _ (((Keep.refl Nil W0).drewN m).at eb (fun h => h))
  · rintro e w' ⟨rfl, w2, m, rfl, rfl⟩
    exact ⟨rfl, hJ.quietTo (kA.drewN m) (by omega)⟩
theorem jstep_wa (hJ : J w wr g nb bb mb h sb rb F G base n c ws log ops K) (hK : K ≤ 1000) (b0 : 0 ≤ base) (b1 : base ≤ 20) (hn : n ≤ 9) {t : Nat} {a b : Nat} {th : Int} {s : WS} (ho : ops[t]? = some (.wa a b th s)) (hst : s.st < 2) :
    Calls Try.prog 51 #[.agg (opCells (.wa a b th s)).toArray] wr fun e w' => e = .returned (.bool true) ∧ JTo w wr g nb bb mb h sb rb F G base n ops (K + 1) w' := by
  have kA : Keep Nil wr (wr.alloc (.cells #[.pointer none, .pointer none, .pointer (some ⟨a, 0, none⟩), .pointer (some ⟨b, 0, none⟩)] 106)) := (Keep.refl Nil wr).alloc _
  have hxb := heap_alloc_new wr (.cells #[.pointer none, .pointer none, .pointer (some ⟨a, 0, none⟩), .pointer (some ⟨b, 0, none⟩)] 106)
  have J1 := hJ.quiet kA
  have nFx : ¬ F wr.heap.size := fun e => by have := hJ.prog.mem.lt _ e; omega
  have nGx : ¬ G wr.heap.size := fun e => by have := hJ.ref.mem.lt _ e; omega
  obtain ⟨W0, hW0⟩ : ∃ W0, W0 = wr.alloc (.cells #[.pointer none, .pointer none, .pointer (some ⟨a, 0, none⟩), .pointer (some ⟨b, 0, none⟩)] 106) := ⟨_, rfl⟩
  rw [← hW0] at kA hxb J1
  obtain ⟨j, t0, t1, q0, q1, q2⟩ := J1.objs t _ ho
  have hpos := q1 hst
  obtain ⟨ea, eb⟩ := j.at_
  have lw := J1.lw
  have lc := J1.lc
  have ll := J1.llog
  obtain ⟨x, hx⟩ : ∃ x, ws[(base + s.pos).toNat]? = some x := ⟨_, List.getElem?_eq_getElem (by omega)⟩
  have x0 := J1.wpos x (List.mem_of_getElem? hx)
  have ln1 : (cnum c).length = n := by simp [cnum, lc]
  have ln2 : (cref c).length = n := by simp [cref, lc]
  have e1 : ∀ k, (F k ∨ k = a) → k < W0.heap.size → F k ∨ k = nb ∨ k = bb ∨ ∃ o, ops[t]? = some o ∧ k = o.a := fun k hk _ => by
    rcases hk with e | e
    · exact .inl e
    · exact .inr (.inr (.inr ⟨_, ho, e⟩))
  have e2 : ∀ k, (G k ∨ k = b) → True → G k ∨ k = sb ∨ ∃ o, ops[t]? = some o ∧ k = o.b := fun k hk _ => by
    rcases hk with e | e
    · exact .inl e
    · exact .inr (.inr ⟨_, ho, e⟩)
  obtain ⟨s', hs'⟩ : ∃ s', s' = s.step n x := ⟨_, rfl⟩
  have hst' : s'.st ≤ 2 ∧ (s'.st < 2 → s'.pos < n) ∧ (s'.st = 1 → s'.first % 2 = 1) := by
    have nx : (s.next n).st ≤ 2 ∧ ((s.next n).st < 2 → (s.next n).pos < n) ∧ ((s.next n).st = 1 → (s.next n).first % 2 = 1) := by
      unfold WS.next
      split
      · exact ⟨by simp, fun h => by simp at h, fun h => by simp at h⟩
      · exact ⟨by simp, fun _ => by simp only; omega, fun h => by simp at h⟩
    rw [hs']
    unfold WS.step
    split
    · split
      · exact nx
      · exact ⟨by simp, fun _ => hpos, fun _ => by simp only; omega⟩
    · split
      · exact ⟨q0, q1, q2⟩
      · exact nx
  have ha := fwait_step J1.prog ea j.fa (by omega) hst x x0 t0 t1 b0 (by omega) hx (by omega)
  rw [ln1, ← hs'] at ha
  obtain ⟨dn, hdn⟩ : ∃ dn, dn = decide (2 ≤ s'.st) := ⟨_, rfl⟩
  have hS := opstep_wa (wr := wr) (a := a) (b := b) (p0 := 17) (p2 := if 2 ≤ s'.st then 0 else 17) (pc := 17) (d := dn)
    (fun w1 => ∃ e, FWStepTo W0 g nb bb mb F base (cnum c) (cbeg c) ws (log ++ [⟨th, base + s.pos, 1, x, x, false⟩]) a th s' e w1)
    (fun w2 => ∃ w1 e e', FWStepTo W0 g nb bb mb F base (cnum c) (cbeg c) ws (log ++ [⟨th, base + s.pos, 1, x, x, false⟩]) a th s' e w1 ∧ RFWStepTo w1 h sb rb G base (cref c) ws (log ++ [⟨th, base + s.pos, 1, x, x, false⟩]) b th s' e' w2)
  rw [← hW0] at hS
  have rn : ∀ W (s : WS), RWaitAt W b h th s → Calls Try.prog 78 #[.pointer (some ⟨b, 0, none⟩)] W fun e w' => e = .returned (.int .u8 (if 2 ≤ s.st then 0 else 17)) ∧ W = w' := fun W s hW => rfwnext hW
  have rn0 := rn _ s eb
  rw [if_neg (by omega)] at rn0
  refine (hS rn0 (fwnext_live ea hst) (ha.mono ?_) ?_ ?_ ?_ ?_ ?_).mono ?_
  · rintro e w1 hq
    exact ⟨by rw [hdn]; exact hq.1, e, hq⟩
  · rintro w1 ⟨e, -, F', -, -, hk, -, -⟩
    have := hk.at hxb (J1.out1 e1 hxb nFx (by decide) (by decide) (by decide) (by decide))
    rw [cell_of this]; rfl
  · rintro w1 ⟨e, q3, F', q4, q5, hk, hf, q6⟩
    have hr := J1.refAt hk e1
    have hb1 : RWaitAt w1 b h th s := hk.at eb (fun hS => by
      rcases hS with e | e
      · exact j.fb e
      · exact j.at_.ab j.at_ e.symm)
    have hb := rfwait_step hr hb1 j.gb (by omega) hst q2 x x0 t0 t1 b0 (by omega) hx (by omega)
    rw [ln2, ← hs'] at hb
    refine hb.mono ?_
    rintro e' w2 hq
    exact ⟨by rw [hdn]; exact hq.1, w1, e, e', ⟨q3, F', q4, q5, hk, hf, q6⟩, hq⟩
  · rintro w2 ⟨w1, e, e', ⟨-, F', -, -, hk, -, -⟩, ⟨-, G', -, -, hk2, -, -⟩⟩
    have h1 := hk.at hxb (J1.out1 e1 hxb nFx (by decide) (by decide) (by decide) (by decide))
    have h2 := hk2.at h1 (J1.out2 hk (fun k hk _ => e2 k hk trivial) hxb nGx (by decide) (by decide) (by decide))
    constructor <;> (rw [cell_of h2]; rfl)
  · rintro w2 m ⟨w1, e, e', ⟨-, F', -, q5, hk, -, -⟩, ⟨-, G', -, -, hk2, -, -⟩⟩
    have h1 : WaitAt (w2.drewN m) a g th s' := (hk2.drewN m).at q5 (fun hS => by
      rcases hS with e | e
      · exact j.ga e
      · exact j.at_.ab j.at_ e)
    by_cases h2 : 2 ≤ s'.st
    · rw [if_pos h2]; exact fwnext_idle h1 h2
    · rw [if_neg h2]; exact fwnext_live h1 (by omega)
  · rintro w2 m ⟨w1, e, e', -, ⟨-, G', -, q5, -, -, -⟩⟩
    exact rn _ s' (((Keep.refl Nil w2).drewN m).at q5 (fun h => h))
  · rintro e w' ⟨rfl, w2, m, ⟨w1, e, e', ⟨-, F', p1, p2, hk, hf, p3⟩, ⟨-, G', r1, r2, hk2, hf2, r3⟩⟩, rfl⟩
    refine ⟨rfl, ?_⟩
    have hone := J1.one (o' := .wa a b th s') (c' := c) (ws' := ws) ho rfl rfl rfl (fun s hs => by cases hs) p1 hk hf (fun k hk _ => by
        rcases hk with e | e
        · exact .inl e
        · exact .inr (.inr (.inr e))) r1 hk2 hf2 (fun k hk _ => by
        rcases hk with e | e
        · exact .inl e
        · exact .inr (.inr e)) lc rfl J1.wpos (by simp; omega) (fun i p hp => by obtain ⟨a1, a2, a3, a4⟩ := J1.cok i p hp; exact ⟨a1, by omega, a3, a4⟩)
      ⟨hk2.at p2 (fun hS => by
        rcases hS with e | e
        · exact j.ga e
        · exact j.at_.ab j.at_ e), r2⟩ ⟨t0, t1, hst'⟩ (fun i p _ hp => (J1.objs i p hp).2)
    exact hone.after kA ((Keep.refl Nil w2).drewN m)
/-- A step of operation t by both. -/
theorem jstep_any (hJ : J w wr g nb bb mb h sb rb F G base n c ws log ops K) (hK : K ≤ 1000) (b0 : 0 ≤ base) (b1 : base ≤ 20) (hn : n ≤ 9) {t : Nat} {o : OpD} (ho : ops[t]? = some o) :
    Calls Try.prog 51 #[.agg (opCells o).toArray] wr fun e w' => e = .returned (.bool true) ∧ JTo w wr g nb bb mb h sb rb F G base n ops (K + 1) w' := by
  cases o with
  | en a b th i live =>
    cases live with
    | true => exact jstep_en hJ hK b0 b1 hn ho
    | false => exact jstep_en0 hJ ho
  | wa a b th s =>
    by_cases hst : s.st < 2
    · exact jstep_wa hJ hK b0 b1 hn ho hst
    · exact jstep_wa0 hJ ho (by omega)
end
end Go.Proofs.Ytckopbjejjeknaa
