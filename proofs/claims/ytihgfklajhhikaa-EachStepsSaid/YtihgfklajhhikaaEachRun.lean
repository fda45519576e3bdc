/- each: the run of six threads of the statements: as data, and where it lies. -/
import Derived.Test.YtihgfklajhhikaaEachOps3
import Derived.Test.YtihgfklajhhikaaFlat7
namespace Go.Lf
/-- A thread: its wait with its block; whether it is in a section; value, sections, set; what its wait has to wait for; its Enter with its steps. -/
structure ET where
  wt : Option (Nat × EWS)
  inn : Bool
  val : Int
  sec : Int
  set : Int
  mu : Option (Nat × List Int)
  en : Option (Nat × Nat)
end Go.Lf
namespace Go.Proofs.Ytihgfklajhhikaa
open Go.RowKit Go.Lf

def ptrO {α : Type} : Option (Nat × α) → Value
  | none => .pointer none
  | some (b, _) => .pointer (some ⟨b, 0, none⟩)
def mustV : Option (Nat × List Int) → Value
  | none => .slice none 0 0
  | some (b, _) => .slice (some ⟨b, 0, none⟩) 6 6
def ethCells (x : ET) : List Value := [ptrO x.en, ptrO x.wt, .bool x.inn, .int .i64 x.val, .int .i64 x.sec, .int .u64 x.set, mustV x.mu]
def erunCells (mb g : Nat) (th : List ET) : List Value := [.pointer (some ⟨mb, 0, none⟩), .pointer (some ⟨g, 0, none⟩)] ++ th.flatMap ethCells

structure ERunAt (w wr : World) (rb g sb cb mb : Nat) (F : Nat → Prop) (sl : List (Int × Bool)) (ws : List Int) (th : List ET) (log : List Acc) : Prop where
  sys : ESys wr g sb cb mb F 0 sl ws log
  run : wr.heap[rb]? = some (.cells (erunCells mb g th).toArray 60 (0, 0))
  fr : ¬ F rb
  own : Own w F wr
  osb : w.heap.size ≤ sb
  orb : w.heap.size ≤ rb
  lsl : sl.length = 6
  lth : th.length = 6
  lws : ws.length = 12
  waits : ∀ (i : Nat) (x : ET) (b : Nat) (s : EWS), th[i]? = some x → x.wt = some (b, s) → EWaitAt wr b g i x.set s ∧ ¬ F b ∧ w.heap.size ≤ b
  ents : ∀ (i : Nat) (x : ET) (b : Nat) (k : Nat), th[i]? = some x → x.en = some (b, k) → EEntAt wr b g i i x.val k ∧ ¬ F b ∧ w.heap.size ≤ b
  musts : ∀ (i : Nat) (x : ET) (b : Nat) (l : List Int), th[i]? = some x → x.mu = some (b, l) → wr.heap[b]? = some (.cells (l.map (Value.int .i64)).toArray 3 (0, 0)) ∧ ¬ F b ∧ w.heap.size ≤ b ∧ l.length = 6
  apart : ∀ (i j : Nat) (x y : ET) (b c : Nat) (s u : EWS), th[i]? = some x → th[j]? = some y → x.wt = some (b, s) → y.wt = some (c, u) → i ≠ j → b ≠ c
  eapart : ∀ (i j : Nat) (x y : ET) (b c : Nat) (s u : Nat), th[i]? = some x → th[j]? = some y → x.en = some (b, s) → y.en = some (c, u) → i ≠ j → b ≠ c

def ERunTo (w : World) (rb g sb cb mb : Nat) (sl : List (Int × Bool)) (ws : List Int) (th : List ET) (n : Nat) (w' : World) : Prop := ∃ F' log', ERunAt w w' rb g sb cb mb F' sl ws th log' ∧ log'.length ≤ n

section
variable {w wr w' : World} {rb g sb cb mb : Nat} {F : Nat → Prop} {sl : List (Int × Bool)} {ws : List Int} {th : List ET} {log : List Acc}

theorem ethCells_len (x : ET) : (ethCells x).length = 7 := rfl
theorem ERunAt.cell (h : ERunAt w wr rb g sb cb mb F sl ws th log) {t : Nat} {x : ET} (hx : th[t]? = some x) {j : Nat} (hj : j < 7) : wr.cell? ⟨rb, 2 + t * 7 + j, none⟩ = (ethCells x)[j]? := by
  rw [cell_of h.run]
  have := flat7 ethCells ethCells_len th [.pointer (some ⟨mb, 0, none⟩), .pointer (some ⟨g, 0, none⟩)] hx hj
  simpa [erunCells] using this
theorem ERunAt.cells (h : ERunAt w wr rb g sb cb mb F sl ws th log) {t : Nat} {x : ET} (hx : th[t]? = some x) :
    wr.cell? ⟨rb, 2 + t * 7, none⟩ = some (ptrO x.en) ∧ wr.cell? ⟨rb, 2 + t * 7 + 1, none⟩ = some (ptrO x.wt) ∧ wr.cell? ⟨rb, 2 + t * 7 + 2, none⟩ = some (.bool x.inn) ∧ wr.cell? ⟨rb, 2 + t * 7 + 3, none⟩ = some (.int .i64 x.val) ∧ wr.cell? ⟨rb, 2 + t * 7 + 4, none⟩ = some (.int .i64 x.sec) ∧ wr.cell? ⟨rb, 2 + t * 7 + 5, none⟩ = some (.int .u64 x.set) ∧ wr.cell? ⟨rb, 2 + t * 7 + 6, none⟩ = some (mustV x.mu) :=
  ⟨h.cell hx (j := 0) (by decide), h.cell hx (j := 1) (by decide), h.cell hx (j := 2) (by decide), h.cell hx (j := 3) (by decide), h.cell hx (j := 4) (by decide), h.cell hx (j := 5) (by decide), h.cell hx (j := 6) (by decide)⟩
theorem ERunAt.top (h : ERunAt w wr rb g sb cb mb F sl ws th log) : wr.cell? ⟨rb, 0, none⟩ = some (.pointer (some ⟨mb, 0, none⟩)) ∧ wr.cell? ⟨rb, 1, none⟩ = some (.pointer (some ⟨g, 0, none⟩)) := by
  constructor <;> (rw [cell_of h.run]; simp [erunCells])
theorem ERunAt.free (h : ERunAt w wr rb g sb cb mb F sl ws th log) (j : Nat) : wr.frozen? ⟨rb, j, none⟩ = false := free_of h.run j
theorem erun_set (h : wr.heap[rb]? = some (.cells (erunCells mb g th).toArray 60 (0, 0))) {t : Nat} {x x' : ET} (hx : th[t]? = some x) {j : Nat} (hj : j < 7) (v : Value) (he : ethCells x' = (ethCells x).set j v) :
    (wr.setCell ⟨rb, 2 + t * 7 + j, none⟩ v).heap[rb]? = some (.cells (erunCells mb g (th.set t x')).toArray 60 (0, 0)) := by
  rw [set_same h]
  have this : (erunCells mb g th).set (2 + t * 7 + j) v = erunCells mb g (th.set t x') := flat7_set ethCells ethCells_len th [.pointer (some ⟨mb, 0, none⟩), .pointer (some ⟨g, 0, none⟩)] hx hj v he
  rw [← this]
  simp

theorem ERunAt.keep (h : ERunAt w wr rb g sb cb mb F sl ws th log) (hk : Keep Nil wr w') : ERunAt w w' rb g sb cb mb F sl ws th log :=
  ⟨h.sys.keep hk (fun _ _ h => h) (fun h => h) (fun h => h) (fun h => h), hk.at h.run (fun h => h), h.fr, h.own.quiet hk, h.osb, h.orb, h.lsl, h.lth, h.lws,
   fun i x b s h1 h2 => ⟨hk.at (h.waits i x b s h1 h2).1 (fun h => h), (h.waits i x b s h1 h2).2⟩,
   fun i x b s h1 h2 => ⟨hk.at (h.ents i x b s h1 h2).1 (fun h => h), (h.ents i x b s h1 h2).2⟩,
   fun i x b l h1 h2 => ⟨hk.at (h.musts i x b l h1 h2).1 (fun h => h), (h.musts i x b l h1 h2).2⟩, h.apart, h.eapart⟩

/-- Thread t's cells have turned, and nothing else. -/
theorem ERunAt.put (h : ERunAt w wr rb g sb cb mb F sl ws th log) {t : Nat} {x' : ET} (hk : Keep (fun k => k = rb) wr w') (hrun : w'.heap[rb]? = some (.cells (erunCells mb g (th.set t x')).toArray 60 (0, 0)))
    (hwt : ∀ b s, x'.wt = some (b, s) → EWaitAt wr b g t x'.set s ∧ ¬ F b ∧ w.heap.size ≤ b ∧ ∀ (i : Nat) (y : ET) (c : Nat) (u : EWS), i ≠ t → th[i]? = some y → y.wt = some (c, u) → c ≠ b)
    (hen : ∀ b k, x'.en = some (b, k) → EEntAt wr b g t t x'.val k ∧ ¬ F b ∧ w.heap.size ≤ b ∧ ∀ (i : Nat) (y : ET) (c : Nat) (u : Nat), i ≠ t → th[i]? = some y → y.en = some (c, u) → c ≠ b)
    (hmu : ∀ b l, x'.mu = some (b, l) → wr.heap[b]? = some (.cells (l.map (Value.int .i64)).toArray 3 (0, 0)) ∧ ¬ F b ∧ w.heap.size ≤ b ∧ l.length = 6) :
    ERunAt w w' rb g sb cb mb F sl ws (th.set t x') log := by
  have n1 : rb ≠ g := type_ne h.run h.sys.eng.head (by decide)
  have n2 : rb ≠ sb := type_ne h.run h.sys.eng.slots (by decide)
  have n3 : rb ≠ cb := type_ne h.run h.sys.eng.cap (by decide)
  refine ⟨h.sys.keep hk (fun k hF e => h.fr (by rw [← e]; exact hF)) (fun e => n1 e.symm) (fun e => n2 e.symm) (fun e => n3 e.symm), hrun, h.fr,
    ⟨h.own.1.trans hk (fun j hj e => by have := h.orb; omega), h.own.2⟩, h.osb, h.orb, h.lsl, by simp [h.lth], h.lws, ?_, ?_, ?_, ?_, ?_⟩
  · intro i y b s h1 h2
    have ⟨a1, a2, a3⟩ : EWaitAt wr b g i y.set s ∧ ¬ F b ∧ w.heap.size ≤ b := by
      rcases set_cases h1 with ⟨e1, e2⟩ | ⟨e1, e2⟩
      · subst e1; subst e2; obtain ⟨a1, a2, a3, -⟩ := hwt b s h2; exact ⟨a1, a2, a3⟩
      · exact h.waits i y b s e2 h2
    exact ⟨hk.at a1 (fun e => by subst e; exact type_ne a1 h.run (by decide) rfl), a2, a3⟩
  · intro i y b s h1 h2
    have ⟨a1, a2, a3⟩ : EEntAt wr b g i i y.val s ∧ ¬ F b ∧ w.heap.size ≤ b := by
      rcases set_cases h1 with ⟨e1, e2⟩ | ⟨e1, e2⟩
      · subst e1; subst e2; obtain ⟨a1, a2, a3, -⟩ := hen b s h2; exact ⟨a1, a2, a3⟩
      · exact h.ents i y b s e2 h2
    exact ⟨hk.at a1 (fun e => by subst e; exact type_ne a1 h.run (by decide) rfl), a2, a3⟩
  · intro i y b l h1 h2
    have ⟨a1, a2⟩ : wr.heap[b]? = some (.cells (l.map (Value.int .i64)).toArray 3 (0, 0)) ∧ ¬ F b ∧ w.heap.size ≤ b ∧ l.length = 6 := by
      rcases set_cases h1 with ⟨e1, e2⟩ | ⟨e1, e2⟩
      · subst e1; subst e2; exact hmu b l h2
      · exact h.musts i y b l e2 h2
    exact ⟨hk.at a1 (fun e => by subst e; exact type_ne a1 h.run (by decide) rfl), a2⟩
  · intro i j y1 y2 c d u v h1 h2 h3 h4 hne
    rcases set_cases h1 with ⟨e1, f1⟩ | ⟨e1, f1⟩ <;> rcases set_cases h2 with ⟨e2, f2⟩ | ⟨e2, f2⟩
    · exact absurd (e1.trans e2.symm) hne
    · subst f1; exact ((hwt c u h3).2.2.2 j y2 d v e2 f2 h4).symm
    · subst f2; exact (hwt d v h4).2.2.2 i y1 c u e1 f1 h3
    · exact h.apart i j y1 y2 c d u v f1 f2 h3 h4 hne
  · intro i j y1 y2 c d u v h1 h2 h3 h4 hne
    rcases set_cases h1 with ⟨e1, f1⟩ | ⟨e1, f1⟩ <;> rcases set_cases h2 with ⟨e2, f2⟩ | ⟨e2, f2⟩
    · exact absurd (e1.trans e2.symm) hne
    · subst f1; exact ((hen c u h3).2.2.2 j y2 d v e2 f2 h4).symm
    · subst f2; exact (hen d v h4).2.2.2 i y1 c u e1 f1 h3
    · exact h.eapart i j y1 y2 c d u v f1 f2 h3 h4 hne
/-- What thread t has is as it is wanted for put. -/
theorem ERunAt.hasW (h : ERunAt w wr rb g sb cb mb F sl ws th log) {t : Nat} {x : ET} (hx : th[t]? = some x) : ∀ b s, x.wt = some (b, s) → EWaitAt wr b g t x.set s ∧ ¬ F b ∧ w.heap.size ≤ b ∧ ∀ (i : Nat) (y : ET) (c : Nat) (u : EWS), i ≠ t → th[i]? = some y → y.wt = some (c, u) → c ≠ b :=
  fun b s hb => ⟨(h.waits t x b s hx hb).1, (h.waits t x b s hx hb).2.1, (h.waits t x b s hx hb).2.2, fun i y c u hi hy hc => h.apart i t y x c b u s hy hx hc hb hi⟩
theorem ERunAt.hasE (h : ERunAt w wr rb g sb cb mb F sl ws th log) {t : Nat} {x : ET} (hx : th[t]? = some x) : ∀ b k, x.en = some (b, k) → EEntAt wr b g t t x.val k ∧ ¬ F b ∧ w.heap.size ≤ b ∧ ∀ (i : Nat) (y : ET) (c : Nat) (u : Nat), i ≠ t → th[i]? = some y → y.en = some (c, u) → c ≠ b :=
  fun b k hb => ⟨(h.ents t x b k hx hb).1, (h.ents t x b k hx hb).2.1, (h.ents t x b k hx hb).2.2, fun i y c u hi hy hc => h.eapart i t y x c b u k hy hx hc hb hi⟩
/-- A cell of a thread has turned that keeps or drops its operations. -/
theorem ERunAt.turn (h : ERunAt w wr rb g sb cb mb F sl ws th log) {t : Nat} {x x' : ET} (hx : th[t]? = some x) {j : Nat} (hj : j < 7) (v : Value) (he : ethCells x' = (ethCells x).set j v) (hw : (x'.wt = x.wt ∧ x'.set = x.set) ∨ x'.wt = none) (hn : (x'.en = x.en ∧ x'.val = x.val) ∨ x'.en = none) (hm : x'.mu = x.mu) :
    ERunAt w (wr.setCell ⟨rb, 2 + t * 7 + j, none⟩ v) rb g sb cb mb F sl ws (th.set t x') log := by
  refine h.put (Keep.setCell (Keep.refl (fun k => k = rb) wr) (.inl rfl) _) (erun_set h.run hx hj v he) (fun b s hb => ?_) (fun b k hb => ?_) (fun b l hb => h.musts t x b l hx (hm ▸ hb))
  · rcases hw with ⟨e, e'⟩ | e
    · rw [e']; exact h.hasW hx b s (e ▸ hb)
    · rw [e] at hb; cases hb
  · rcases hn with ⟨e, e'⟩ | e
    · rw [e']; exact h.hasE hx b k (e ▸ hb)
    · rw [e] at hb; cases hb

/-- The engine or an operation of thread t has made a step. -/
theorem ERunAt.move {S : Nat → Prop} {F' : Nat → Prop} {sl' : List (Int × Bool)} {ws' : List Int} {log' : List Acc} (h : ERunAt w wr rb g sb cb mb F sl ws th log) {t : Nat} {x x' : ET} (hx : th[t]? = some x)
    (hs : ESys w' g sb cb mb F' 0 sl' ws' log') (hk : Keep S wr w') (hf : Foot wr F F') (hl : sl'.length = 6) (hw : ws'.length = 12) (hc : ethCells x' = ethCells x) (hm : x'.mu = x.mu)
    (hS : ∀ k, S k → k < wr.heap.size → F k ∨ k = sb ∨ (∃ s, x.wt = some (k, s)) ∨ (∃ k0, x.en = some (k, k0)))
    (hwt : ∀ b s, x'.wt = some (b, s) → EWaitAt w' b g t x'.set s ∧ ∃ s0, x.wt = some (b, s0))
    (hen : ∀ b k, x'.en = some (b, k) → EEntAt w' b g t t x'.val k ∧ ∃ k0, x.en = some (b, k0)) :
    ERunAt w w' rb g sb cb mb F' sl' ws' (th.set t x') log' := by
  have nf : ∀ k : Nat, ¬ F k → k < wr.heap.size → ¬ F' k := fun k h1 h2 h3 => (hf k h3).elim h1 (fun h => by omega)
  have out : ∀ (k : Nat) (cs : Array Value) (ty : TypeId), wr.heap[k]? = some (.cells cs ty (0, 0)) → ¬ F k → ty ≠ 163 → ty ≠ 177 → ty ≠ 171 → ¬ S k := by
    intro k cs ty h1 h2 h3 h4 h5 hSk
    rcases hS k hSk (lt_of_block h1) with e | e | ⟨s, e⟩ | ⟨s, e⟩
    · exact h2 e
    · subst e; exact type_ne h1 h.sys.eng.slots h3 rfl
    · exact type_ne h1 (h.waits t x k s hx e).1 h4 rfl
    · exact type_ne h1 (h.ents t x k s hx e).1 h5 rfl
  refine ⟨hs, ?_, nf rb h.fr (lt_of_block h.run), ?_, h.osb, h.orb, hl, by simp [h.lth], hw, ?_, ?_, ?_, ?_, ?_⟩
  · rw [show erunCells mb g (th.set t x') = erunCells mb g th by unfold erunCells; rw [flat7_same ethCells th hx hc]]
    exact hk.at h.run (out _ _ _ h.run h.fr (by decide) (by decide) (by decide))
  · refine ⟨h.own.1.trans hk (fun j hj hSj => ?_), h.own.2.trans h.own.1 hf⟩
    rcases hS j hSj (by have := h.own.1.size; omega) with e | e | ⟨s, e⟩ | ⟨s, e⟩
    · rcases h.own.2 j e with h' | h'
      · exact h'
      · exact absurd hj (by omega)
    · have := h.osb; omega
    · have := (h.waits t x j s hx e).2.2; omega
    · have := (h.ents t x j s hx e).2.2; omega
  · intro i y b s h1 h2
    rcases set_cases h1 with ⟨e1, e2⟩ | ⟨e1, e2⟩
    · subst e1; subst e2
      obtain ⟨a1, s0, a2⟩ := hwt b s h2
      obtain ⟨b1, b2, b3⟩ := h.waits i x b s0 hx a2
      exact ⟨a1, nf b b2 (lt_of_block b1), b3⟩
    · obtain ⟨a1, a2, a3⟩ := h.waits i y b s e2 h2
      refine ⟨hk.at a1 (fun hSb => ?_), nf b a2 (lt_of_block a1), a3⟩
      rcases hS b hSb (lt_of_block a1) with e | e | ⟨u, e⟩ | ⟨u, e⟩
      · exact a2 e
      · subst e; exact type_ne a1 h.sys.eng.slots (by decide) rfl
      · exact h.apart i t y x b b s u e2 hx h2 e e1 rfl
      · exact type_ne a1 (h.ents t x b u hx e).1 (by decide) rfl
  · intro i y b s h1 h2
    rcases set_cases h1 with ⟨e1, e2⟩ | ⟨e1, e2⟩
    · subst e1; subst e2
      obtain ⟨a1, s0, a2⟩ := hen b s h2
      obtain ⟨b1, b2, b3⟩ := h.ents i x b s0 hx a2
      exact ⟨a1, nf b b2 (lt_of_block b1), b3⟩
    · obtain ⟨a1, a2, a3⟩ := h.ents i y b s e2 h2
      refine ⟨hk.at a1 (fun hSb => ?_), nf b a2 (lt_of_block a1), a3⟩
      rcases hS b hSb (lt_of_block a1) with e | e | ⟨u, e⟩ | ⟨u, e⟩
      · exact a2 e
      · subst e; exact type_ne a1 h.sys.eng.slots (by decide) rfl
      · exact type_ne a1 (h.waits t x b u hx e).1 (by decide) rfl
      · exact h.eapart i t y x b b s u e2 hx h2 e e1 rfl
  · intro i y b l h1 h2
    have ⟨y0, h3, h4⟩ : ∃ y0, th[i]? = some y0 ∧ y0.mu = some (b, l) := by
      rcases set_cases h1 with ⟨e1, e2⟩ | ⟨e1, e2⟩
      · subst e1; subst e2; exact ⟨x, hx, hm ▸ h2⟩
      · exact ⟨y, e2, h2⟩
    obtain ⟨a1, a2, a3, a4⟩ := h.musts i y0 b l h3 h4
    exact ⟨hk.at a1 (out _ _ _ a1 a2 (by decide) (by decide) (by decide)), nf b a2 (lt_of_block a1), a3, a4⟩
  · intro i j y1 y2 c d u v h1 h2 h3 h4 hne
    rcases set_cases h1 with ⟨e1, f1⟩ | ⟨e1, f1⟩ <;> rcases set_cases h2 with ⟨e2, f2⟩ | ⟨e2, f2⟩
    · exact absurd (e1.trans e2.symm) hne
    · subst f1; obtain ⟨-, s0, a⟩ := hwt c u h3; exact h.apart t j x y2 c d s0 v hx f2 a h4 (fun e => e2 e.symm)
    · subst f2; obtain ⟨-, s0, a⟩ := hwt d v h4; exact h.apart i t y1 x c d u s0 f1 hx h3 a e1
    · exact h.apart i j y1 y2 c d u v f1 f2 h3 h4 hne
  · intro i j y1 y2 c d u v h1 h2 h3 h4 hne
    rcases set_cases h1 with ⟨e1, f1⟩ | ⟨e1, f1⟩ <;> rcases set_cases h2 with ⟨e2, f2⟩ | ⟨e2, f2⟩
    · exact absurd (e1.trans e2.symm) hne
    · subst f1; obtain ⟨-, s0, a⟩ := hen c u h3; exact h.eapart t j x y2 c d s0 v hx f2 a h4 (fun e => e2 e.symm)
    · subst f2; obtain ⟨-, s0, a⟩ := hen d v h4; exact h.eapart i t y1 x c d u s0 f1 hx h3 a e1
    · exact h.eapart i j y1 y2 c d u v f1 f2 h3 h4 hne
/-- A wait of the run has made a step. -/
theorem ERunAt.step (h : ERunAt w wr rb g sb cb mb F sl ws th log) {t : Nat} {x : ET} {b : Nat} {s s' : EWS} {pc : Int} (hx : th[t]? = some x) (hb : x.wt = some (b, s)) {log' : List Acc} {e : Ending} (ht : EWStepTo wr g sb cb mb F 0 sl ws log' b t x.set pc s' e w') :
    e = .returned (.tuple #[.int .u8 pc, .bool (s'.st == 3)]) ∧ ∃ F', ERunAt w w' rb g sb cb mb F' sl ws (th.set t { x with wt := some (b, s') }) log' := by
  obtain ⟨he, F', hs, hw, hk, hf, hn⟩ := ht
  refine ⟨he, F', h.move hx hs hk hf h.lsl h.lws (by simp [ethCells, ptrO, hb]) rfl (fun k hS hl => ?_) (fun c u hc => ?_) (fun c u hc => ?_)⟩
  · rcases hS with e | e
    · exact .inl e
    · subst e; exact .inr (.inr (.inl ⟨s, hb⟩))
  · simp only [Option.some.injEq, Prod.mk.injEq] at hc
    obtain ⟨rfl, rfl⟩ := hc
    exact ⟨hw, s, hb⟩
  · simp only at hc
    obtain ⟨a1, a2, a3⟩ := h.ents t x c u hx hc
    refine ⟨hk.at a1 (fun hS => ?_), u, hc⟩
    rcases hS with e | e
    · exact a2 e
    · subst e; exact type_ne a1 (h.waits t x c s hx hb).1 (by decide) rfl
/-- An Enter of the run has made a step. -/
theorem ERunAt.estep (h : ERunAt w wr rb g sb cb mb F sl ws th log) {t : Nat} {x : ET} {b k k' : Nat} (hx : th[t]? = some x) (hb : x.en = some (b, k)) {sl' : List (Int × Bool)} {ws' : List Int} {log' : List Acc} (hl : sl'.length = 6) (hlw : ws'.length = 12) (ht : EEntTo wr g sb cb mb F 0 sl' ws' log' b t t x.val k' w') :
    ∃ F', ERunAt w w' rb g sb cb mb F' sl' ws' (th.set t { x with en := some (b, k') }) log' := by
  obtain ⟨F', hs, hw, hk, hf, hn⟩ := ht
  refine ⟨F', h.move hx hs hk hf hl hlw (by simp [ethCells, ptrO, hb]) rfl (fun k hS hl => ?_) (fun c u hc => ?_) (fun c u hc => ?_)⟩
  · rcases hS with e | e | e
    · exact .inl e
    · exact .inr (.inl e)
    · subst e; exact .inr (.inr (.inr ⟨_, hb⟩))
  · simp only at hc
    obtain ⟨a1, a2, a3⟩ := h.waits t x c u hx hc
    refine ⟨hk.at a1 (fun hS => ?_), u, hc⟩
    rcases hS with e | e | e
    · exact a2 e
    · subst e; exact type_ne a1 h.sys.eng.slots (by decide) rfl
    · subst e; exact type_ne a1 (h.ents t x c k hx hb).1 (by decide) rfl
  · simp only [Option.some.injEq, Prod.mk.injEq] at hc
    obtain ⟨rfl, rfl⟩ := hc
    exact ⟨hw, k, hb⟩
/-- The engine has made a step; the threads are as they were. -/
theorem ERunAt.adv {S : Nat → Prop} {F' : Nat → Prop} {sl' : List (Int × Bool)} {ws' : List Int} {log' : List Acc} (h : ERunAt w wr rb g sb cb mb F sl ws th log) (hs : ESys w' g sb cb mb F' 0 sl' ws' log') (hk : Keep S wr w') (hf : Foot wr F F') (hS : ∀ k, S k → k < wr.heap.size → F k ∨ k = sb) (hl : sl'.length = 6) (hw : ws'.length = 12) :
    ERunAt w w' rb g sb cb mb F' sl' ws' th log' := by
  obtain ⟨x, hx⟩ : ∃ x, th[0]? = some x := ⟨_, List.getElem?_eq_getElem (by have := h.lth; omega)⟩
  have := h.move (x' := x) hx hs hk hf hl hw rfl rfl (fun k h1 h2 => (hS k h1 h2).elim .inl (fun h => .inr (.inl h)))
    (fun b s hb => by
      obtain ⟨a1, a2, a3⟩ := h.waits 0 x b s hx hb
      exact ⟨hk.at a1 (fun hSb => (hS b hSb (lt_of_block a1)).elim a2 (fun e => by subst e; exact type_ne a1 h.sys.eng.slots (by decide) rfl)), s, hb⟩)
    (fun b s hb => by
      obtain ⟨a1, a2, a3⟩ := h.ents 0 x b s hx hb
      exact ⟨hk.at a1 (fun hSb => (hS b hSb (lt_of_block a1)).elim a2 (fun e => by subst e; exact type_ne a1 h.sys.eng.slots (by decide) rfl)), s, hb⟩)
  rwa [set_eq hx] at this
/-- The list of thread t's wait has turned. -/
theorem ERunAt.setMust (h : ERunAt w wr rb g sb cb mb F sl ws th log) {t : Nat} {x : ET} (hx : th[t]? = some x) {qb : Nat} {l : List Int} (hm : x.mu = some (qb, l)) (hne : ∀ (i : Nat) (y : ET) (c : Nat) (l' : List Int), i ≠ t → th[i]? = some y → y.mu = some (c, l') → c ≠ qb) (hcb : cb ≠ qb) (k : Nat) (m : Int) :
    ERunAt w (wr.setCell ⟨qb, k, none⟩ (.int .i64 m)) rb g sb cb mb F sl ws (th.set t { x with mu := some (qb, l.set k m) }) log := by
  obtain ⟨b1, b2, b3, b4⟩ := h.musts t x qb l hx hm
  have hk : Keep (fun k => k = qb) wr (wr.setCell ⟨qb, k, none⟩ (.int .i64 m)) := Keep.setCell (Keep.refl (fun k => k = qb) wr) (.inl rfl) _
  have r1 : rb ≠ qb := type_ne h.run b1 (by decide)
  have r2 : g ≠ qb := type_ne h.sys.eng.head b1 (by decide)
  have r3 : sb ≠ qb := type_ne h.sys.eng.slots b1 (by decide)
  have oldw : ∀ (i : Nat) (y : ET), (th.set t { x with mu := some (qb, l.set k m) })[i]? = some y → ∃ z, th[i]? = some z ∧ z.wt = y.wt ∧ z.en = y.en ∧ z.set = y.set ∧ z.val = y.val := by
    intro i y hy
    rcases set_cases hy with ⟨e1, e2⟩ | ⟨e1, e2⟩
    · exact ⟨x, e1 ▸ hx, by rw [e2], by rw [e2], by rw [e2], by rw [e2]⟩
    · exact ⟨y, e2, rfl, rfl, rfl, rfl⟩
  refine ⟨h.sys.keep hk (fun k hF e => b2 (by rw [← e]; exact hF)) r2 r3 hcb, ?_, h.fr, ⟨h.own.1.trans hk (fun j hj e => by omega), h.own.2⟩, h.osb, h.orb, h.lsl, by simp [h.lth], h.lws, ?_, ?_, ?_, ?_, ?_⟩
  · rw [show erunCells mb g (th.set t { x with mu := some (qb, l.set k m) }) = erunCells mb g th by unfold erunCells; rw [flat7_same ethCells th hx (by simp [ethCells, mustV, hm])]]
    exact hk.at h.run r1
  · intro i y c u h1 h2
    obtain ⟨z, hz, e, -, e', -⟩ := oldw i y h1
    obtain ⟨a1, a2, a3⟩ := h.waits i z c u hz (e.trans h2)
    rw [e'] at a1
    exact ⟨hk.at a1 (fun e => by subst e; exact type_ne a1 b1 (by decide) rfl), a2, a3⟩
  · intro i y c u h1 h2
    obtain ⟨z, hz, -, e, -, e'⟩ := oldw i y h1
    obtain ⟨a1, a2, a3⟩ := h.ents i z c u hz (e.trans h2)
    rw [e'] at a1
    exact ⟨hk.at a1 (fun e => by subst e; exact type_ne a1 b1 (by decide) rfl), a2, a3⟩
  · intro i y c l' h1 h2
    rcases set_cases h1 with ⟨e1, e2⟩ | ⟨e1, e2⟩
    · rw [e2] at h2
      simp only [Option.some.injEq, Prod.mk.injEq] at h2
      rw [← h2.1, ← h2.2]
      refine ⟨?_, b2, b3, by simp [b4]⟩
      rw [set_same b1]
      simp [List.map_set]
    · obtain ⟨a1, a2, a3, a4⟩ := h.musts i y c l' e2 h2
      exact ⟨hk.at a1 (hne i y c l' e1 e2 h2), a2, a3, a4⟩
  · intro i j y1 y2 c d u u' h1 h2 h3 h4 hne'
    obtain ⟨z1, hz1, e1, -⟩ := oldw i y1 h1
    obtain ⟨z2, hz2, e2, -⟩ := oldw j y2 h2
    exact h.apart i j z1 z2 c d u u' hz1 hz2 (e1.trans h3) (e2.trans h4) hne'
  · intro i j y1 y2 c d u u' h1 h2 h3 h4 hne'
    obtain ⟨z1, hz1, -, e1, -⟩ := oldw i y1 h1
    obtain ⟨z2, hz2, -, e2, -⟩ := oldw j y2 h2
    exact h.eapart i j z1 z2 c d u u' hz1 hz2 (e1.trans h3) (e2.trans h4) hne'
end
end Go.Proofs.Ytihgfklajhhikaa
