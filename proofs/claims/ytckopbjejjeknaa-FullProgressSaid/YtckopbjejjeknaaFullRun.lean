/- full: the run of six threads of the statements: as data, and where it lies. -/
import Derived.Test.YtckopbjejjeknaaFullOps3
namespace Go.Lf
/-- A thread: its wait with its block; whether it is in a section; value, sections, set; what its wait has to wait for. -/
structure PT where
  wt : Option (Nat × WS)
  inn : Bool
  val : Int
  sec : Int
  set : Int
  mu : Option (Nat × List Int)
  en : Option Nat := none
theorem flat7 {α β : Type} (f : α → List β) (hf : ∀ a, (f a).length = 7) (l : List α) (pre : List β) {t : Nat} {x : α} (hx : l[t]? = some x) {j : Nat} (hj : j < 7) : (pre ++ l.flatMap f)[pre.length + t * 7 + j]? = (f x)[j]? := by
  rw [show pre.length + t * 7 + j = pre.length + (t * 7 + j) by omega, List.getElem?_append_right (by omega), show pre.length + (t * 7 + j) - pre.length = t * 7 + j by omega]
  induction l generalizing t with
  | nil => simp at hx
  | cons a l ih =>
    cases t with
    | zero =>
      simp at hx; subst hx
      rw [List.flatMap_cons, List.getElem?_append_left (by have := hf a; omega)]
      simp
    | succ t =>
      have h1 := ih (t := t) (by simpa using hx)
      rw [List.flatMap_cons, List.getElem?_append_right (by have := hf a; omega), hf a, show (t + 1) * 7 + j - 7 = t * 7 + j by omega]
      exact h1
theorem flat7_set {α β : Type} (f : α → List β) (hf : ∀ a, (f a).length = 7) (l : List α) (pre : List β) {t : Nat} {x x' : α} (hx : l[t]? = some x) {j : Nat} (hj : j < 7) (v : β) (he : f x' = (f x).set j v) : (pre ++ l.flatMap f).set (pre.length + t * 7 + j) v = pre ++ (l.set t x').flatMap f := by
  rw [show pre.length + t * 7 + j = pre.length + (t * 7 + j) by omega, List.set_append_right _ _ (by omega), show pre.length + (t * 7 + j) - pre.length = t * 7 + j by omega]
  congr 1
  induction l generalizing t with
  | nil => simp at hx
  | cons a l ih =>
    cases t with
    | zero =>
      simp at hx; subst hx
      rw [List.flatMap_cons, List.set_append_left _ _ (by have := hf a; omega), List.set_cons_zero, List.flatMap_cons, he]
      simp
    | succ t =>
      have h1 := ih (t := t) (by simpa using hx)
      rw [List.flatMap_cons, List.set_append_right _ _ (by have := hf a; omega), hf a, show (t + 1) * 7 + j - 7 = t * 7 + j by omega, List.set_cons_succ, List.flatMap_cons, h1]
end Go.Lf
namespace Go.Proofs.Ytckopbjejjeknaa
open Go.RowKit Go.Lf

def ptrW : Option (Nat × WS) → Value
  | none => .pointer none
  | some (b, _) => .pointer (some ⟨b, 0, none⟩)
def ptrE : Option Nat → Value
  | none => .pointer none
  | some b => .pointer (some ⟨b, 0, none⟩)
def mustV : Option (Nat × List Int) → Value
  | none => .slice none 0 0
  | some (b, _) => .slice (some ⟨b, 0, none⟩) 6 6
def thCells (x : PT) : List Value := [ptrE x.en, ptrW x.wt, .bool x.inn, .int .i64 x.val, .int .i64 x.sec, .int .u64 x.set, mustV x.mu]
def runCells (mb g : Nat) (th : List PT) : List Value := [.pointer (some ⟨mb, 0, none⟩), .pointer (some ⟨g, 0, none⟩)] ++ th.flatMap thCells

structure RunAt (w wr : World) (rb g nb bb mb : Nat) (F : Nat → Prop) (nums : List Int) (beg : List Bool) (th : List PT) (log : List Acc) : Prop where
  sys : FSys wr g nb bb mb F 0 nums beg nums log
  run : wr.heap[rb]? = some (.cells (runCells mb g th).toArray 85 (0, 0))
  fr : ¬ F rb
  own : Own w F wr
  onb : w.heap.size ≤ nb
  obb : w.heap.size ≤ bb
  orb : w.heap.size ≤ rb
  lnum : nums.length = 6
  lth : th.length = 6
  lbeg : beg.length = 6
  waits : ∀ (i : Nat) (x : PT) (b : Nat) (s : WS), th[i]? = some x → x.wt = some (b, s) → WaitAt wr b g i s ∧ ¬ F b ∧ w.heap.size ≤ b
  musts : ∀ (i : Nat) (x : PT) (b : Nat) (l : List Int), th[i]? = some x → x.mu = some (b, l) → wr.heap[b]? = some (.cells (l.map (Value.int .i64)).toArray 3 (0, 0)) ∧ ¬ F b ∧ w.heap.size ≤ b ∧ l.length = 6
  apart : ∀ (i j : Nat) (x y : PT) (b c : Nat) (s u : WS), th[i]? = some x → th[j]? = some y → x.wt = some (b, s) → y.wt = some (c, u) → i ≠ j → b ≠ c

def RunTo (w : World) (rb g nb bb mb : Nat) (nums : List Int) (beg : List Bool) (th : List PT) (n : Nat) (w' : World) : Prop := ∃ F' log', RunAt w w' rb g nb bb mb F' nums beg th log' ∧ log'.length ≤ n

section
variable {w wr w' : World} {rb g nb bb mb : Nat} {F : Nat → Prop} {nums : List Int} {beg : List Bool} {th : List PT} {log : List Acc}

theorem thCells_len (x : PT) : (thCells x).length = 7 := rfl
theorem RunAt.cell (h : RunAt w wr rb g nb bb mb F nums beg th log) {t : Nat} {x : PT} (hx : th[t]? = some x) {j : Nat} (hj : j < 7) : wr.cell? ⟨rb, 2 + t * 7 + j, none⟩ = (thCells x)[j]? := by
  rw [cell_of h.run]
  have := flat7 thCells thCells_len th [.pointer (some ⟨mb, 0, none⟩), .pointer (some ⟨g, 0, none⟩)] hx hj
  simpa [runCells] using this
theorem RunAt.cells (h : RunAt w wr rb g nb bb mb F nums beg th log) {t : Nat} {x : PT} (hx : th[t]? = some x) :
    wr.cell? ⟨rb, 2 + t * 7, none⟩ = some (ptrE x.en) ∧ wr.cell? ⟨rb, 2 + t * 7 + 1, none⟩ = some (ptrW x.wt) ∧ wr.cell? ⟨rb, 2 + t * 7 + 2, none⟩ = some (.bool x.inn) ∧ wr.cell? ⟨rb, 2 + t * 7 + 3, none⟩ = some (.int .i64 x.val) ∧ wr.cell? ⟨rb, 2 + t * 7 + 4, none⟩ = some (.int .i64 x.sec) ∧ wr.cell? ⟨rb, 2 + t * 7 + 5, none⟩ = some (.int .u64 x.set) ∧ wr.cell? ⟨rb, 2 + t * 7 + 6, none⟩ = some (mustV x.mu) :=
  ⟨h.cell hx (j := 0) (by decide), h.cell hx (j := 1) (by decide), h.cell hx (j := 2) (by decide), h.cell hx (j := 3) (by decide), h.cell hx (j := 4) (by decide), h.cell hx (j := 5) (by decide), h.cell hx (j := 6) (by decide)⟩
theorem RunAt.top (h : RunAt w wr rb g nb bb mb F nums beg th log) : wr.cell? ⟨rb, 0, none⟩ = some (.pointer (some ⟨mb, 0, none⟩)) ∧ wr.cell? ⟨rb, 1, none⟩ = some (.pointer (some ⟨g, 0, none⟩)) := by
  constructor <;> (rw [cell_of h.run]; simp [runCells])
theorem RunAt.free (h : RunAt w wr rb g nb bb mb F nums beg th log) (j : Nat) : wr.frozen? ⟨rb, j, none⟩ = false := free_of h.run j
theorem run_set (h : wr.heap[rb]? = some (.cells (runCells mb g th).toArray 85 (0, 0))) {t : Nat} {x x' : PT} (hx : th[t]? = some x) {j : Nat} (hj : j < 7) (v : Value) (he : thCells x' = (thCells x).set j v) :
    (wr.setCell ⟨rb, 2 + t * 7 + j, none⟩ v).heap[rb]? = some (.cells (runCells mb g (th.set t x')).toArray 85 (0, 0)) := by
  rw [set_same h]
  have this : (runCells mb g th).set (2 + t * 7 + j) v = runCells mb g (th.set t x') := flat7_set thCells thCells_len th [.pointer (some ⟨mb, 0, none⟩), .pointer (some ⟨g, 0, none⟩)] hx hj v he
  rw [← this]
  simp

/-- Blocks of a run by their types. -/
theorem RunAt.ne (h : RunAt w wr rb g nb bb mb F nums beg th log) : rb ≠ g ∧ rb ≠ nb ∧ rb ≠ bb :=
  ⟨type_ne h.run h.sys.eng.head (by decide), type_ne h.run h.sys.eng.hnums (by decide), type_ne h.run h.sys.eng.hbeg (by decide)⟩
theorem RunAt.keep (h : RunAt w wr rb g nb bb mb F nums beg th log) (hk : Keep Nil wr w') : RunAt w w' rb g nb bb mb F nums beg th log :=
  ⟨h.sys.keep hk (fun _ _ h => h) (fun h => h) (fun h => h) (fun h => h), hk.at h.run (fun h => h), h.fr, h.own.quiet hk, h.onb, h.obb, h.orb, h.lnum, h.lth, h.lbeg,
   fun i x b s h1 h2 => ⟨(h.waits i x b s h1 h2).1.keepW hk (fun h => h), (h.waits i x b s h1 h2).2⟩,
   fun i x b l h1 h2 => ⟨hk.at (h.musts i x b l h1 h2).1 (fun h => h), (h.musts i x b l h1 h2).2⟩, h.apart⟩
/-- A cell of a thread has turned that is no wait's and no list's. -/
theorem RunAt.turn (h : RunAt w wr rb g nb bb mb F nums beg th log) {t : Nat} {x x' : PT} (hx : th[t]? = some x) {j : Nat} (hj : j < 7) (v : Value) (he : thCells x' = (thCells x).set j v) (hw : x'.wt = x.wt ∨ x'.wt = none) (hm : x'.mu = x.mu) :
    RunAt w (wr.setCell ⟨rb, 2 + t * 7 + j, none⟩ v) rb g nb bb mb F nums beg (th.set t x') log := by
  obtain ⟨n1, n2, n3⟩ := h.ne
  have hk : Keep (fun k => k = rb) wr (wr.setCell ⟨rb, 2 + t * 7 + j, none⟩ v) := Keep.setCell (Keep.refl (fun k => k = rb) wr) (.inl rfl) _
  have key : ∀ (i : Nat) (y : PT), (th.set t x')[i]? = some y → ∃ z, th[i]? = some z ∧ (y.wt = z.wt ∨ y.wt = none) ∧ y.mu = z.mu := by
    intro i y hy
    rw [List.getElem?_set] at hy
    split at hy
    · rename_i e; subst e
      split at hy
      · obtain rfl := Option.some.inj hy; exact ⟨x, hx, hw, hm⟩
      · cases hy
    · exact ⟨y, hy, .inl rfl, rfl⟩
  refine ⟨h.sys.keep hk (fun k hF e => h.fr (by rw [← e]; exact hF)) (fun e => n1 e.symm) (fun e => n2 e.symm) (fun e => n3 e.symm), run_set h.run hx hj v he, h.fr,
    ⟨h.own.1.trans hk (fun j hj e => by have := h.orb; omega), h.own.2⟩, h.onb, h.obb, h.orb, h.lnum, by simp [h.lth], h.lbeg, ?_, ?_, ?_⟩
  · intro i y b s h1 h2
    obtain ⟨z, hz, hzw, -⟩ := key i y h1
    rcases hzw with e | e
    · obtain ⟨a1, a2, a3⟩ := h.waits i z b s hz (e ▸ h2)
      exact ⟨a1.keepW hk (fun e => by subst e; exact type_ne a1 h.run (by decide) rfl), a2, a3⟩
    · rw [e] at h2; cases h2
  · intro i y b l h1 h2
    obtain ⟨z, hz, -, hzm⟩ := key i y h1
    obtain ⟨a1, a2, a3, a4⟩ := h.musts i z b l hz (hzm ▸ h2)
    exact ⟨hk.at a1 (fun e => by subst e; exact type_ne a1 h.run (by decide) rfl), a2, a3, a4⟩
  · intro i j' y1 y2 b c s u h1 h2 h3 h4 hne
    obtain ⟨z1, hz1, e1, -⟩ := key i y1 h1
    obtain ⟨z2, hz2, e2, -⟩ := key j' y2 h2
    rcases e1 with e1 | e1
    · rcases e2 with e2 | e2
      · exact h.apart i j' z1 z2 b c s u hz1 hz2 (e1 ▸ h3) (e2 ▸ h4) hne
      · rw [e2] at h4; cases h4
    · rw [e1] at h3; cases h3
/-- A wait of the run has made a step. -/
theorem RunAt.step (h : RunAt w wr rb g nb bb mb F nums beg th log) {t : Nat} {x : PT} {b : Nat} {s s' : WS} (hx : th[t]? = some x) (hb : x.wt = some (b, s)) {log' : List Acc} {e : Ending} (ht : FWStepTo wr g nb bb mb F 0 nums beg nums log' b t s' e w') :
    e = .returned (.tuple #[.int .u8 17, .bool (decide (2 ≤ s'.st))]) ∧ ∃ F', RunAt w w' rb g nb bb mb F' nums beg (th.set t { x with wt := some (b, s') }) log' := by
  obtain ⟨he, F', hs, hw, hk, hf, hn⟩ := ht
  obtain ⟨w1, w2, w3⟩ := h.waits t x b s hx hb
  have nf : ∀ k : Nat, ¬ F k → k < wr.heap.size → ¬ F' k := fun k h1 h2 h3 => (hf k h3).elim h1 (fun h => by omega)
  have key : ∀ (i : Nat) (y : PT), (th.set t { x with wt := some (b, s') })[i]? = some y → (i = t ∧ y = { x with wt := some (b, s') }) ∨ (i ≠ t ∧ th[i]? = some y) := by
    intro i y hy
    rw [List.getElem?_set] at hy
    split at hy
    · rename_i e; subst e
      split at hy
      · exact .inl ⟨rfl, (Option.some.inj hy).symm⟩
      · cases hy
    · rename_i e; exact .inr ⟨fun h => e h.symm, hy⟩
  have hrun : (runCells mb g (th.set t { x with wt := some (b, s') })) = runCells mb g th := by
    have := flat7_set thCells thCells_len th [.pointer (some ⟨mb, 0, none⟩), .pointer (some ⟨g, 0, none⟩)] hx (x' := { x with wt := some (b, s') }) (j := 0) (by decide) (ptrE x.en) (by simp [thCells, ptrW, hb])
    rw [runCells, ← this]
    apply List.ext_getElem?
    intro n
    rw [List.getElem?_set]
    split
    · rename_i e; subst e
      have hc := flat7 thCells thCells_len th [.pointer (some ⟨mb, 0, none⟩), .pointer (some ⟨g, 0, none⟩)] hx (j := 0) (by decide)
      rw [runCells, hc]
      split
      · rfl
      · rename_i hl
        rw [List.getElem?_eq_none (by omega)] at hc
        cases hc
    · rfl
  refine ⟨he, F', hs, ?_, nf rb h.fr (lt_of_block h.run), ?_, h.onb, h.obb, h.orb, h.lnum, by simp [h.lth], h.lbeg, ?_, ?_, ?_⟩
  · rw [hrun]; exact hk.at h.run (fun e => e.elim h.fr (fun e => type_ne w1 h.run (by decide) e.symm))
  · exact ⟨h.own.1.trans hk (fun j hj hF => by
      rcases hF with hF | hF
      · rcases h.own.2 j hF with h' | h'
        · exact h'
        · exact absurd hj (by omega)
      · exact absurd hj (by omega)), h.own.2.trans h.own.1 hf⟩
  · intro i y c u h1 h2
    rcases key i y h1 with ⟨rfl, rfl⟩ | ⟨hne, h1⟩
    · simp only [Option.some.injEq, Prod.mk.injEq] at h2
      obtain ⟨rfl, rfl⟩ := h2
      exact ⟨hw, hn, w3⟩
    · obtain ⟨a1, a2, a3⟩ := h.waits i y c u h1 h2
      exact ⟨a1.keepW hk (fun e => e.elim a2 (h.apart i t y x c b u s h1 hx h2 hb hne)), nf c a2 (lt_of_block a1), a3⟩
  · intro i y c l h1 h2
    have ⟨y0, h3, h4⟩ : ∃ y0, th[i]? = some y0 ∧ y0.mu = some (c, l) := by
      rcases key i y h1 with ⟨rfl, rfl⟩ | ⟨hne, h1⟩
      · exact ⟨x, hx, h2⟩
      · exact ⟨y, h1, h2⟩
    obtain ⟨a1, a2, a3, a4⟩ := h.musts i y0 c l h3 h4
    exact ⟨hk.at a1 (fun e => e.elim a2 (fun e => by subst e; exact type_ne a1 w1 (by decide) rfl)), nf c a2 (lt_of_block a1), a3, a4⟩
  · intro i j y1 y2 c d u v h1 h2 h3 h4 hne
    rcases key i y1 h1 with ⟨e1, f1⟩ | ⟨e1, f1⟩ <;> rcases key j y2 h2 with ⟨e2, f2⟩ | ⟨e2, f2⟩
    · exact absurd (e1.trans e2.symm) hne
    · rw [f1] at h3
      simp only [Option.some.injEq, Prod.mk.injEq] at h3
      rw [← h3.1]
      exact h.apart t j x y2 b d s v hx f2 hb h4 (fun e => e2 e.symm)
    · rw [f2] at h4
      simp only [Option.some.injEq, Prod.mk.injEq] at h4
      rw [← h4.1]
      exact h.apart i t y1 x c b u s f1 hx h3 hb e1
    · exact h.apart i j y1 y2 c d u v f1 f2 h3 h4 hne
/-- The engine has made a step; the threads are as they were. -/
theorem RunAt.adv {S : Nat → Prop} {F' : Nat → Prop} {nums' : List Int} {beg' : List Bool} {log' : List Acc} (h : RunAt w wr rb g nb bb mb F nums beg th log) (hs : FSys w' g nb bb mb F' 0 nums' beg' nums' log') (hk : Keep S wr w') (hf : Foot wr F F') (hS : ∀ k, S k → k < wr.heap.size → F k ∨ k = nb ∨ k = bb ∨ (∃ eb t i live, S k ∧ k = eb ∧ EntAt wr eb g t i live ∧ w.heap.size ≤ eb)) (hl : nums'.length = 6) (hb : beg'.length = 6) :
    RunAt w w' rb g nb bb mb F' nums' beg' th log' := by
  obtain ⟨n1, n2, n3⟩ := h.ne
  have nf : ∀ k : Nat, ¬ F k → k < wr.heap.size → ¬ F' k := fun k h1 h2 h3 => (hf k h3).elim h1 (fun h => by omega)
  have out : ∀ (k : Nat) (cs : Array Value) (ty : TypeId), wr.heap[k]? = some (.cells cs ty (0, 0)) → ¬ F k → ty ≠ 42 → ty ≠ 4 → ty ≠ 146 → ¬ S k := by
    intro k cs ty h1 h2 h3 h4 h5 hSk
    rcases hS k hSk (lt_of_block h1) with e | e | e | ⟨eb, t, i, live, -, e, he, -⟩
    · exact h2 e
    · subst e; exact type_ne h1 h.sys.eng.hnums h3 rfl
    · subst e; exact type_ne h1 h.sys.eng.hbeg h4 rfl
    · subst e; exact type_ne h1 he h5 rfl
  refine ⟨hs, hk.at h.run (out _ _ _ h.run h.fr (by decide) (by decide) (by decide)), nf rb h.fr (lt_of_block h.run), ?_, h.onb, h.obb, h.orb, hl, h.lth, hb, ?_, ?_, h.apart⟩
  · refine ⟨h.own.1.trans hk (fun j hj hSj => ?_), h.own.2.trans h.own.1 hf⟩
    rcases hS j hSj (by have := h.own.1.size; omega) with e | e | e | ⟨eb, t, i, live, -, e, -, hle⟩
    · rcases h.own.2 j e with h' | h'
      · exact h'
      · exact absurd hj (by omega)
    · have := h.onb; omega
    · have := h.obb; omega
    · omega
  · intro i x b s h1 h2
    obtain ⟨a1, a2, a3⟩ := h.waits i x b s h1 h2
    exact ⟨a1.keepW hk (out _ _ _ a1 a2 (by decide) (by decide) (by decide)), nf b a2 (lt_of_block a1), a3⟩
  · intro i x b l h1 h2
    obtain ⟨a1, a2, a3, a4⟩ := h.musts i x b l h1 h2
    exact ⟨hk.at a1 (out _ _ _ a1 a2 (by decide) (by decide) (by decide)), nf b a2 (lt_of_block a1), a3, a4⟩
end
end Go.Proofs.Ytckopbjejjeknaa
