/- gate: the run of six threads of the statements: as data with its blocks, and where it lies. -/
import Derived.Test.YtihgfklajhhikaaGateWt
import Derived.Test.YtihgfklajhhikaaGateStep
set_option linter.unusedVariables false
set_option linter.unusedSimpArgs false
namespace Go.Lf
open Go.RowKit
/-- Where a thread is, with the blocks of its objects. -/
inductive GPh where
  | idle
  | ent (eb sb : Nat) (c : Option Nat)
  | inn (sb c : Nat)
  | wt (wb lb : Nat) (lv : Value) (f : Int) (st side : Nat) (left : List Nat)
structure GT where
  p : GPh
  val : Nat
  sec : Int
  set : Nat
  mu : Option (Nat × List Int)
def GPh.abs : GPh → GP
  | .idle => .idle
  | .ent _ _ c => .ent c
  | .inn _ c => .inn c
  | .wt _ _ _ _ st side left => .wt st side left
def GT.abs (x : GT) : GA := ⟨x.p.abs, x.val, x.sec, x.set, match x.mu with | some (_, l) => l | none => []⟩
def GPh.has : GPh → Nat → Prop
  | .idle, _ => False
  | .ent eb sb _, k => k = eb ∨ k = sb
  | .inn sb _, k => k = sb
  | .wt wb lb lv _ _ _ _, k => k = wb ∨ k = lb ∨ lv.ownBlock = some k
def GT.has (x : GT) (k : Nat) : Prop := x.p.has k ∨ ∃ l, x.mu = some (k, l)
/-- The section of a thread's slot. -/
def GPh.sbv : GPh → Option Nat
  | .ent _ sb _ => some sb
  | .inn sb _ => some sb
  | _ => none
def secOf (th : List GT) (k : Int) : Option Value := if k < 0 then none else ((th[k.toNat]?).bind fun x => x.p.sbv).map fun b => .pointer (some ⟨b, 0, none⟩)
theorem secOf_set {th : List GT} {t : Nat} {x : GT} (hx : th[t]? = some x) (x' : GT) (k : Int) : secOf (th.set t x') k = if k = t then x'.p.sbv.map fun b => .pointer (some ⟨b, 0, none⟩) else secOf th k := by
  unfold secOf
  by_cases e : k = t
  · subst e
    rw [if_pos rfl, if_neg (by omega), show ((t : Int)).toNat = t by omega, put_self hx]
    rfl
  · rw [if_neg e]
    by_cases h : k < 0
    · rw [if_pos h, if_pos h]
    · rw [if_neg h, if_neg h, List.getElem?_set, if_neg (by omega)]
theorem secOf_at {th : List GT} {t : Nat} {x : GT} (hx : th[t]? = some x) : secOf th t = x.p.sbv.map fun b => .pointer (some ⟨b, 0, none⟩) := by
  unfold secOf
  rw [if_neg (by omega), show ((t : Int)).toNat = t by omega, hx]
  rfl
end Go.Lf
namespace Go.Proofs.Ytihgfklajhhikaa
open Go.RowKit Go.Lf

def GPh.cells : GPh → List Value
  | .idle => [.pointer none, .pointer none, .bool false]
  | .ent eb _ _ => [ptr eb, .pointer none, .bool false]
  | .inn _ _ => [.pointer none, .pointer none, .bool true]
  | .wt wb _ _ _ _ _ _ => [.pointer none, ptr wb, .bool false]
def gmustV : Option (Nat × List Int) → Value
  | none => .slice none 0 0
  | some (b, _) => .slice (some ⟨b, 0, none⟩) 6 6
/-- The seven cells of a thread, each for itself. -/
structure RT where
  a : Value
  b : Value
  c : Value
  d : Value
  e : Value
  f : Value
  g : Value
def RT.cells (x : RT) : List Value := [x.a, x.b, x.c, x.d, x.e, x.f, x.g]
theorem RT.len (x : RT) : x.cells.length = 7 := rfl
def GT.raw (x : GT) : RT := match x.p with
  | .idle => ⟨.pointer none, .pointer none, .bool false, .int .i64 x.val, .int .i64 x.sec, .int .u64 x.set, gmustV x.mu⟩
  | .ent eb _ _ => ⟨ptr eb, .pointer none, .bool false, .int .i64 x.val, .int .i64 x.sec, .int .u64 x.set, gmustV x.mu⟩
  | .inn _ _ => ⟨.pointer none, .pointer none, .bool true, .int .i64 x.val, .int .i64 x.sec, .int .u64 x.set, gmustV x.mu⟩
  | .wt wb _ _ _ _ _ _ => ⟨.pointer none, ptr wb, .bool false, .int .i64 x.val, .int .i64 x.sec, .int .u64 x.set, gmustV x.mu⟩
def rawCells (mb g : Nat) (rs : List RT) : List Value := [ptr mb, ptr g] ++ rs.flatMap RT.cells
/-- The run's block. -/
def RunRow (w : World) (rb mb g : Nat) (rs : List RT) : Prop := w.heap[rb]? = some (.cells (rawCells mb g rs).toArray 110 (0, 0))
section
variable {w : World} {rb mb g : Nat} {rs : List RT}
theorem RunRow.cell (h : RunRow w rb mb g rs) {t : Nat} {x : RT} (hx : rs[t]? = some x) {j : Nat} (hj : j < 7) : w.cell? ⟨rb, 2 + t * 7 + j, none⟩ = x.cells[j]? := by
  rw [cell_of h]
  have := flat7 RT.cells RT.len rs [ptr mb, ptr g] hx hj
  simpa [rawCells] using this
theorem RunRow.cells (h : RunRow w rb mb g rs) {t : Nat} {x : RT} (hx : rs[t]? = some x) :
    w.cell? ⟨rb, 2 + t * 7, none⟩ = some x.a ∧ w.cell? ⟨rb, 2 + t * 7 + 1, none⟩ = some x.b ∧ w.cell? ⟨rb, 2 + t * 7 + 2, none⟩ = some x.c ∧ w.cell? ⟨rb, 2 + t * 7 + 3, none⟩ = some x.d ∧ w.cell? ⟨rb, 2 + t * 7 + 4, none⟩ = some x.e ∧ w.cell? ⟨rb, 2 + t * 7 + 5, none⟩ = some x.f ∧ w.cell? ⟨rb, 2 + t * 7 + 6, none⟩ = some x.g :=
  ⟨h.cell hx (j := 0) (by decide), h.cell hx (j := 1) (by decide), h.cell hx (j := 2) (by decide), h.cell hx (j := 3) (by decide), h.cell hx (j := 4) (by decide), h.cell hx (j := 5) (by decide), h.cell hx (j := 6) (by decide)⟩
theorem RunRow.top (h : RunRow w rb mb g rs) : w.cell? ⟨rb, 0, none⟩ = some (ptr mb) ∧ w.cell? ⟨rb, 1, none⟩ = some (ptr g) := by
  constructor <;> (rw [cell_of h]; simp [rawCells])
theorem RunRow.free (h : RunRow w rb mb g rs) (j : Nat) : w.frozen? ⟨rb, j, none⟩ = false := free_of h j
theorem RunRow.set (h : RunRow w rb mb g rs) {t : Nat} {x : RT} (hx : rs[t]? = some x) (x' : RT) {j : Nat} (hj : j < 7) (v : Value) (he : x'.cells = x.cells.set j v) : RunRow (w.setCell ⟨rb, 2 + t * 7 + j, none⟩ v) rb mb g (rs.set t x') := by
  unfold RunRow
  rw [set_same h]
  have this : (rawCells mb g rs).set (2 + t * 7 + j) v = rawCells mb g (rs.set t x') := flat7_set RT.cells RT.len rs [ptr mb, ptr g] hx hj v he
  rw [← this]
  simp
end

/-- A thread's objects. -/
structure ThAt (w : World) (g mb n t : Nat) (x : GT) : Prop where
  ent : ∀ eb sb c, x.p = .ent eb sb c → GEnterAt w eb mb t ((4 * (x.val % n) : Nat) : Int) sb ∧ SecAt w sb (match c with | none => -1 | some c => (c : Int)) false ∧ eb ≠ sb
  inn : ∀ sb c, x.p = .inn sb c → SecAt w sb (c : Int) true
  wt : ∀ wb lb lv f st side left, x.p = .wt wb lb lv f st side left → (∃ lp, GHead w wb g t lv lp side st ∧ (left ≠ [] → lp = ptr lb)) ∧ LvAt w lv left ∧ (∀ k, lv.ownBlock = some k → k ≠ wb ∧ k ≠ lb) ∧ 0 ≤ f ∧ wb ≠ lb ∧
    (st = 0 → ∀ b r, left = b :: r → LockAt w lb mb ⟨f, 0, t, ((4 * b : Nat) : Int) + 3, true, 0⟩)
  mu : ∀ qb l, x.mu = some (qb, l) → w.heap[qb]? = some (.cells (l.map (Value.int .i64)).toArray 3 (0, 0)) ∧ l.length = 6 ∧ ¬ x.p.has qb
theorem ThAt.keep {w w' : World} {g mb n t : Nat} {x : GT} {S : Nat → Prop} (h : ThAt w g mb n t x) (hk : Keep S w w') (hn : ∀ k, x.has k → ¬ S k) : ThAt w' g mb n t x := by
  refine ⟨fun eb sb c hp => ?_, fun sb c hp => ?_, fun wb lb lv f st side left hp => ?_, fun qb l hm => ?_⟩
  · obtain ⟨h1, h2, h3⟩ := h.ent eb sb c hp
    exact ⟨hk.at h1 (hn _ (.inl (by rw [hp]; exact .inl rfl))), hk.at h2 (hn _ (.inl (by rw [hp]; exact .inr rfl))), h3⟩
  · exact hk.at (h.inn sb c hp) (hn _ (.inl (by rw [hp]; exact rfl)))
  · obtain ⟨h1, h2, h3, h4, h5, h6⟩ := h.wt wb lb lv f st side left hp
    obtain ⟨lp, h1, h1'⟩ := h1
    refine ⟨⟨lp, hk.at h1 (hn _ (.inl (by rw [hp]; exact .inl rfl))), h1'⟩, h2.keep hk (fun k hkk => hn _ (.inl (by rw [hp]; exact .inr (.inr hkk)))), h3, h4, h5, fun h0 b r hl => ?_⟩
    exact (h6 h0 b r hl).keep hk (hn _ (.inl (by rw [hp]; exact .inr (.inl rfl))))
  · obtain ⟨h1, h2⟩ := h.mu qb l hm
    exact ⟨hk.at h1 (hn _ (.inr ⟨l, hm⟩)), h2⟩

structure GRunAt (w wr : World) (rb g r mb n : Nat) (F : Nat → Prop) (ml : List (Int × Value)) (ws : List Int) (th : List GT) (log : List Acc) : Prop where
  mem : MemAt wr mb F ws log
  eng : GEngAt wr g r mb 0 n ml
  run : RunRow wr rb mb g (th.map GT.raw)
  frb : ¬ F rb
  fg : ¬ F g
  fr : ¬ F r
  own : Go.Lf.Own w F wr
  orb : w.heap.size ≤ rb
  or : w.heap.size ≤ r
  lth : th.length = 6
  thr : ∀ (i : Nat) (x : GT), th[i]? = some x → ThAt wr g mb n i x
  blk : ∀ (i : Nat) (x : GT) (k : Nat), th[i]? = some x → x.has k → ¬ F k ∧ w.heap.size ≤ k ∧ k < wr.heap.size ∧ k ≠ rb ∧ k ≠ g ∧ k ≠ r
  apart : ∀ (i j : Nat) (x y : GT) (k : Nat), th[i]? = some x → th[j]? = some y → x.has k → y.has k → i = j
  nd : (mkeys ml).Nodup
  ml : ∀ k : Int, mlook ml k = secOf th k
  fs : ∀ (i : Nat) (x : GT), th[i]? = some x → ∀ wb lb lv f st side left, x.p = .wt wb lb lv f st side left → f ≤ log.length

def GRunTo (w : World) (rb g r mb n : Nat) (s : GS) (m : Nat) (w' : World) : Prop := ∃ F' ml' ws' th' log', GRunAt w w' rb g r mb n F' ml' ws' th' log' ∧ log'.length ≤ m ∧ s = ⟨ws', th'.map GT.abs⟩
section
variable {w wr w' : World} {rb g r mb n : Nat} {F F' : Nat → Prop} {ml ml' : List (Int × Value)} {ws ws' : List Int} {th : List GT} {log log' : List Acc}
theorem GRunAt.rgr (h : GRunAt w wr rb g r mb n F ml ws th log) : rb ≠ g ∧ rb ≠ r ∧ g ≠ r :=
  ⟨gtype_ne h.run h.eng.head (by decide), fun e => h.eng.map.ne h.run e.symm, fun e => h.eng.map.ne h.eng.head e.symm⟩
/-- The world has turned, of the run thread t at most. -/
theorem GRunAt.upd (h : GRunAt w wr rb g r mb n F ml ws th log) {t : Nat} {x : GT} (hx : th[t]? = some x) (x' : GT) {S : Nat → Prop} (hk : Keep S wr w') (hS : ∀ k, S k → k < wr.heap.size → F k ∨ k = r ∨ k = rb ∨ x.has k)
    (hm : MemAt w' mb F' ws' log') (hf : Foot wr F F') (he : GEngAt w' g r mb 0 n ml') (hrun : RunRow w' rb mb g ((th.set t x').map GT.raw)) (hth : ThAt w' g mb n t x') (hb : ∀ k, x'.has k → k < w'.heap.size ∧ (x.has k ∨ (wr.heap.size ≤ k ∧ ¬ F' k)))
    (hml : ∀ k : Int, mlook ml' k = if k = t then x'.p.sbv.map ptr else mlook ml k) (hnd : (mkeys ml').Nodup) (hlog : log.length ≤ log'.length) (hfs : ∀ wb lb lv f st side left, x'.p = .wt wb lb lv f st side left → f ≤ log'.length) : GRunAt w w' rb g r mb n F' ml' ws' (th.set t x') log' := by
  have nf : ∀ k : Nat, ¬ F k → k < wr.heap.size → ¬ F' k := fun k h1 h2 h3 => (hf k h3).elim h1 (fun h => by omega)
  have lrb := lt_of_block h.run
  have lg := lt_of_block h.eng.head
  have lr := h.eng.map.lt
  obtain ⟨d1, d2, d3⟩ := h.rgr
  refine ⟨hm, he, hrun, nf rb h.frb lrb, nf g h.fg lg, nf r h.fr lr, ⟨h.own.1.trans hk (fun j hj hSj => ?_), h.own.2.trans h.own.1 hf⟩, h.orb, h.or, by simp [h.lth], ?_, ?_, ?_, hnd, ?_, ?_⟩
  · rcases hS j hSj (by have := h.own.1.size; omega) with e | e | e | e
    · rcases h.own.2 j e with h' | h'
      · exact h'
      · exact absurd hj (by omega)
    · have := h.or; omega
    · have := h.orb; omega
    · have := (h.blk t x j hx e).2.1; omega
  · intro i y hy
    rcases set_cases hy with ⟨e1, e2⟩ | ⟨e1, e2⟩
    · subst e1; subst e2; exact hth
    · refine (h.thr i y e2).keep hk (fun k hhas hSk => ?_)
      obtain ⟨b1, b2, b3, b4, b5, b6⟩ := h.blk i y k e2 hhas
      rcases hS k hSk b3 with e | e | e | e
      · exact b1 e
      · exact b6 e
      · exact b4 e
      · exact e1 (h.apart i t y x k e2 hx hhas e)
  · intro i y k hy hhas
    rcases set_cases hy with ⟨e1, e2⟩ | ⟨e1, e2⟩
    · subst e1; subst e2
      obtain ⟨h0, h1 | ⟨h1, h2⟩⟩ := hb k hhas
      · obtain ⟨b1, b2, b3, b4, b5, b6⟩ := h.blk i x k hx h1
        exact ⟨nf k b1 b3, b2, h0, b4, b5, b6⟩
      · exact ⟨h2, by have := h.own.1.size; omega, h0, by omega, by omega, by omega⟩
    · obtain ⟨b1, b2, b3, b4, b5, b6⟩ := h.blk i y k e2 hhas
      exact ⟨nf k b1 b3, b2, by have := hk.size; omega, b4, b5, b6⟩
  · intro i j y z k hy hz hhy hhz
    rcases set_cases hy with ⟨e1, e2⟩ | ⟨e1, e2⟩ <;> rcases set_cases hz with ⟨e3, e4⟩ | ⟨e3, e4⟩
    · exact e1.trans e3.symm
    · subst e1; subst e2
      obtain ⟨h0, h1 | ⟨h1, h2⟩⟩ := hb k hhy
      · exact h.apart i j x z k hx e4 h1 hhz
      · have := (h.blk j z k e4 hhz).2.2.1; omega
    · subst e3; subst e4
      obtain ⟨h0, h1 | ⟨h1, h2⟩⟩ := hb k hhz
      · exact h.apart i j y x k e2 hx hhy h1
      · have := (h.blk i y k e2 hhy).2.2.1; omega
    · exact h.apart i j y z k e2 e4 hhy hhz
  · intro k
    rw [hml, secOf_set hx, h.ml]
  · intro i y hy wb lb lv f st side left hp
    rcases set_cases hy with ⟨e1, e2⟩ | ⟨e1, e2⟩
    · subst e2; exact hfs wb lb lv f st side left hp
    · have := h.fs i y e2 wb lb lv f st side left hp; omega
theorem GRunAt.keep (h : GRunAt w wr rb g r mb n F ml ws th log) (hk : Keep Nil wr w') : GRunAt w w' rb g r mb n F ml ws th log :=
  ⟨h.mem.keep hk (fun _ _ h => h), h.eng.keep hk (fun h => h) (fun h => h), hk.at h.run (fun h => h), h.frb, h.fg, h.fr, h.own.quiet hk, h.orb, h.or, h.lth,
   fun i x hx => (h.thr i x hx).keep hk (fun _ _ h => h), fun i x k hx hh => by
    obtain ⟨b1, b2, b3, b4, b5, b6⟩ := h.blk i x k hx hh
    exact ⟨b1, b2, by have := hk.size; omega, b4, b5, b6⟩, h.apart, h.nd, h.ml, h.fs⟩
theorem GRunAt.cells (h : GRunAt w wr rb g r mb n F ml ws th log) {t : Nat} {x : GT} (hx : th[t]? = some x) :
    wr.cell? ⟨rb, 2 + t * 7, none⟩ = some (GT.raw x).a ∧ wr.cell? ⟨rb, 2 + t * 7 + 1, none⟩ = some (GT.raw x).b ∧ wr.cell? ⟨rb, 2 + t * 7 + 2, none⟩ = some (GT.raw x).c ∧ wr.cell? ⟨rb, 2 + t * 7 + 3, none⟩ = some (GT.raw x).d ∧ wr.cell? ⟨rb, 2 + t * 7 + 4, none⟩ = some (GT.raw x).e ∧ wr.cell? ⟨rb, 2 + t * 7 + 5, none⟩ = some (GT.raw x).f ∧ wr.cell? ⟨rb, 2 + t * 7 + 6, none⟩ = some (GT.raw x).g :=
  RunRow.cells h.run (t := t) (x := GT.raw x) (by simp [hx])
theorem raw_c (x : GT) : (GT.raw x).c = .bool x.abs.p.isIn := by
  unfold GT.raw GT.abs GPh.abs
  cases x.p <;> rfl
theorem raw_d (x : GT) : (GT.raw x).d = .int .i64 x.val := by unfold GT.raw; cases x.p <;> rfl
theorem raw_e (x : GT) : (GT.raw x).e = .int .i64 x.sec := by unfold GT.raw; cases x.p <;> rfl
theorem raw_f (x : GT) : (GT.raw x).f = .int .u64 x.set := by unfold GT.raw; cases x.p <;> rfl
theorem raw_g (x : GT) : (GT.raw x).g = gmustV x.mu := by unfold GT.raw; cases x.p <;> rfl
theorem map_set' {α β : Type} (f : α → β) (l : List α) (t : Nat) (x : α) : (l.set t x).map f = (l.map f).set t (f x) := List.map_set
/-- A section's thread. -/
theorem GRunAt.look (h : GRunAt w wr rb g r mb n F ml ws th log) {t : Nat} {x : GT} (hx : th[t]? = some x) : mlook ml t = x.p.sbv.map ptr := (h.ml t).trans (secOf_at hx)
/-- A wait has made a step. -/
theorem GRunAt.wstep (h : GRunAt w wr rb g r mb n F ml ws th log) {t : Nat} {x : GT} (hx : th[t]? = some x) {wb lb : Nat} {lv : Value} {f : Int} {st side : Nat} {left : List Nat} (hp : x.p = .wt wb lb lv f st side left)
    {S : Nat → Prop} (hk : Keep S wr w') (hS : ∀ k, S k → k < wr.heap.size → F k ∨ k = wb ∨ k = lb) (hm : MemAt w' mb F' ws' log') (hf : Foot wr F F') (lb' : Nat) (lv' lp' : Value) (f' : Int) (st' side' : Nat) (left' : List Nat)
    (hd : GHead w' wb g t lv' lp' side' st') (hlp : left' ≠ [] → lp' = ptr lb') (hlv : LvAt w' lv' left') (how : ∀ k, lv'.ownBlock = some k → lv.ownBlock = some k) (hlb : lb' = lb ∨ (wr.heap.size ≤ lb' ∧ ¬ F' lb' ∧ lb' < w'.heap.size)) (hf0 : 0 ≤ f') (hf1 : f' ≤ log'.length) (hlog : log.length ≤ log'.length)
    (hlk : st' = 0 → ∀ b r, left' = b :: r → LockAt w' lb' mb ⟨f', 0, t, ((4 * b : Nat) : Int) + 3, true, 0⟩) :
    GRunAt w w' rb g r mb n F' ml ws' (th.set t { x with p := .wt wb lb' lv' f' st' side' left' }) log' := by
  obtain ⟨hlp0, h2, h3, h4, h5, h6⟩ := (h.thr t x hx).wt _ _ _ _ _ _ _ hp
  have hasw : x.has wb := .inl (by rw [hp]; exact .inl rfl)
  have hasl : x.has lb := .inl (by rw [hp]; exact .inr (.inl rfl))
  have hasv : ∀ k, lv.ownBlock = some k → x.has k := fun k hk => .inl (by rw [hp]; exact .inr (.inr hk))
  have bw := h.blk t x wb hx hasw
  have bl := h.blk t x lb hx hasl
  obtain ⟨d1, d2, d3⟩ := h.rgr
  have lrb := lt_of_block h.run
  have lg := lt_of_block h.eng.head
  have lr := h.eng.map.lt
  have out : ∀ k, k < wr.heap.size → ¬ F k → k ≠ wb → k ≠ lb → ¬ S k := fun k h1 h2 h3 h4 hSk => by
    rcases hS k hSk h1 with e | e | e
    · exact h2 e
    · exact h3 e
    · exact h4 e
  refine h.upd hx _ hk (fun k hSk hlt => ?_) hm hf (h.eng.keep hk (out g lg h.fg (fun e => bw.2.2.2.2.1 e.symm) (fun e => bl.2.2.2.2.1 e.symm)) (out r lr h.fr (fun e => bw.2.2.2.2.2 e.symm) (fun e => bl.2.2.2.2.2 e.symm))) ?_ ?_ ?_ (fun k => ?_) h.nd hlog ?_
  · rcases hS k hSk hlt with e | e | e
    · exact .inl e
    · exact .inr (.inr (.inr (e ▸ hasw)))
    · exact .inr (.inr (.inr (e ▸ hasl)))
  · have hraw : GT.raw { x with p := .wt wb lb' lv' f' st' side' left' } = GT.raw x := by unfold GT.raw; rw [hp]
    rw [map_set', hraw, set_eq (by simp [hx])]
    exact hk.at h.run (out rb lrb h.frb (fun e => bw.2.2.2.1 e.symm) (fun e => bl.2.2.2.1 e.symm))
  · refine ⟨fun eb sb c hc => by simp at hc, fun sb c hc => by simp at hc, fun wb1 lb1 lv1 f1 st1 side1 left1 hc => ?_, fun qb l hq => ?_⟩
    · simp only [GPh.wt.injEq] at hc
      obtain ⟨rfl, rfl, rfl, rfl, rfl, rfl, rfl⟩ := hc
      refine ⟨⟨lp', hd, hlp⟩, hlv, fun k hk => ⟨(h3 k (how k hk)).1, ?_⟩, hf0, ?_, hlk⟩
      · rcases hlb with e | ⟨e, -, -⟩
        · rw [e]; exact (h3 k (how k hk)).2
        · have := (h.blk t x k hx (hasv k (how k hk))).2.2.1; omega
      rcases hlb with e | e
      · rw [e]; exact h5
      · omega
    · obtain ⟨q1, q2, q3⟩ := (h.thr t x hx).mu qb l hq
      have bq := h.blk t x qb hx (.inr ⟨l, hq⟩)
      rw [hp] at q3
      refine ⟨hk.at q1 (fun hSk => ?_), q2, fun hh => q3 ?_⟩
      · rcases hS qb hSk bq.2.2.1 with e | e | e
        · exact bq.1 e
        · exact q3 (.inl e)
        · exact q3 (.inr (.inl e))
      · rcases hh with e | e | e
        · exact .inl e
        · rcases hlb with e' | ⟨e1, e2, e3⟩
          · exact .inr (.inl (e.trans e'))
          · have := bq.2.2.1; omega
        · exact .inr (.inr (how _ e))
  · intro k hk'
    rcases hk' with hk' | ⟨l, hk'⟩
    · rcases hk' with e | e | e
      · subst e; exact ⟨lt_of_block hd, .inl hasw⟩
      · subst e
        rcases hlb with e | ⟨e1, e2, e3⟩
        · rw [e]; exact ⟨by have := hk.size; omega, .inl hasl⟩
        · exact ⟨e3, .inr ⟨e1, e2⟩⟩
      · exact ⟨by have := (h.blk t x k hx (hasv k (how k e))).2.2.1; have := hk.size; omega, .inl (hasv k (how k e))⟩
    · have hh : x.has k := .inr ⟨l, hk'⟩
      exact ⟨by have := (h.blk t x k hx hh).2.2.1; have := hk.size; omega, .inl hh⟩
  · simp only [GPh.sbv, Option.map_none]
    split
    · rename_i e; rw [e, h.look hx, hp]; rfl
    · rfl
  · intro wb1 lb1 lv1 f1 st1 side1 left1 hc
    simp only [GPh.wt.injEq] at hc
    obtain ⟨rfl, rfl, rfl, rfl, rfl, rfl, rfl⟩ := hc
    exact hf1
end
end Go.Proofs.Ytihgfklajhhikaa
