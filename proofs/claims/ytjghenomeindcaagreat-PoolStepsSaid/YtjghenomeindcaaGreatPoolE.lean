/- The pools and many operations beside them, as one way of lying. -/
import Derived.Test.YtjghenomeindcaaGreatPoolV
import Derived.Test.YtjghenomeindcaaGreatPoolO
import Derived.Test.YtjghenomeindcaaGreatPoolL
set_option linter.unusedVariables false
set_option linter.unusedSimpArgs false
namespace Go.Proofs.YtjghenomeindcaaGreat
open Go.RowKit Go.Lf
/-- An operation, and where it lies. -/
structure POb where
  tb : Nat
  m : Nat
  o : PO
def ObAt (c : Cfg) (pb : Nat) (w : World) (x : POb) : Prop := (x.o.gv = false ∧ TkAt w x.tb x.m pb c x.o) ∨ (x.o.gv = true ∧ GvAt w x.tb x.m pb c x.o)
def ObL (c : Cfg) (pb : Nat) : ObLies POb where
  at_ := ObAt c pb
  has x k := k = x.tb ∨ k = x.m
  keep := fun h hk hn => h.imp (fun h => ⟨h.1, h.2.keep hk (hn _ (.inl rfl)) (hn _ (.inr rfl))⟩) (fun h => ⟨h.1, h.2.keep hk (hn _ (.inl rfl)) (hn _ (.inr rfl))⟩)
  lt := fun h hk => by
    rcases h with ⟨-, h⟩ | ⟨-, h⟩ <;> rcases hk with rfl | rfl
    · exact h.lt.1
    · exact h.lt.2
    · exact h.lt.1
    · exact h.lt.2
/-- The pools and their operations. -/
def PoolsL (c : Cfg) (pb mb L : Nat) : Lies (PSt × List POb) := (PoolL c pb mb L).objsB (ObL c pb)
section
variable {w w' : World} {A : Nat → Prop} {c : Cfg} {pb mb L j : Nat} {s s' : PSt} {ops : List POb} {x : POb} {v : Int}
structure ONum (o : PO) (s : PSt) : Prop where
  t0 : 0 ≤ o.th
  t1 : o.th < 64
  h1 : 1 ≤ o.ht
  h6 : o.ht ≤ 6
  lg : s.log.length < 1000000000
theorem pools_tstep (h : (PoolsL c pb mb L).lie w A (s, ops)) (hok : c.ok) (hj : ops[j]? = some x) (hg : x.o.gv = false) (hn : ONum x.o s) (hp : x.o.pc = 4 ∨ x.o.pc = 5 ∨ x.o.pc = 6) (hgo : PGo c s x.o v) (hx : s.ws[x.o.at c]? = some v) :
    Calls Tryz.prog 90 #[.pointer (some ⟨x.tb, 0, none⟩)] w fun e w' => e = .returned (.tuple #[.int .u8 x.o.pc, .bool ((x.o.op v).pc == 0)]) ∧ (PoolsL c pb mb L).To w A (x.o.st c s v, ops.set j { x with o := x.o.op v }) w' := by
  obtain ⟨F, hF⟩ := h
  obtain ⟨ob, gb, F1, G, hpa⟩ := hF.sys
  obtain ⟨hat, hnF⟩ := hF.objs j x hj
  rcases hat with ⟨-, htk⟩ | ⟨e, -⟩
  · have hpin : PIn w F c pb mb L ob gb F1 G s x.tb x.m x.o := ⟨hpa, hok, hnF _ (.inl rfl), hnF _ (.inr rfl), hn.t0, hn.t1, hn.h1, hn.h6, hn.lg⟩
    refine (tstep_any hpin htk hp hgo hx).mono ?_
    rintro e w' ⟨rfl, A', h1, h2, k1, f1⟩
    have hs : ∀ k, A' k → k ≠ x.tb ∧ k ≠ x.m := fun k hk => (f1 k hk).elim (fun e => ⟨fun e2 => hnF _ (.inl rfl) (e2 ▸ e), fun e2 => hnF _ (.inr rfl) (e2 ▸ e)⟩) (fun e => ⟨fun e2 => by have := htk.lt.1; omega, fun e2 => by have := htk.lt.2; omega⟩)
    obtain ⟨A2, a1, a2, a3⟩ := hF.one (o' := { x with o := x.o.op v }) hj h1 (.inl ⟨h2.gv, h2⟩) (k1.mono fun k _ e => e.elim .inl (fun e => .inr (.inl e))) f1 (fun k hk => ⟨fun e => hk.elim (hs k e).1 (hs k e).2, .inl hk⟩)
    exact ⟨rfl, A2, ⟨A', a1⟩, a2, a3⟩
  · rw [hg] at e; cases e
theorem pools_gstep (h : (PoolsL c pb mb L).lie w A (s, ops)) (hok : c.ok) (hj : ops[j]? = some x) (hg : x.o.gv = true) (hn : ONum x.o s) (hp : x.o.pc = 4 ∨ x.o.pc = 7 ∨ x.o.pc = 8) (hgo : PGo c s x.o v) (hx : s.ws[x.o.at c]? = some v) :
    Calls Tryz.prog 95 #[.pointer (some ⟨x.tb, 0, none⟩)] w fun e w' => e = .returned (.tuple #[.int .u8 x.o.pc, .bool ((x.o.op v).pc == 0)]) ∧ (PoolsL c pb mb L).To w A (x.o.st c s v, ops.set j { x with o := x.o.op v }) w' := by
  obtain ⟨F, hF⟩ := h
  obtain ⟨ob, gb, F1, G, hpa⟩ := hF.sys
  obtain ⟨hat, hnF⟩ := hF.objs j x hj
  rcases hat with ⟨e, -⟩ | ⟨-, htk⟩
  · rw [hg] at e; cases e
  · have hpin : PIn w F c pb mb L ob gb F1 G s x.tb x.m x.o := ⟨hpa, hok, hnF _ (.inl rfl), hnF _ (.inr rfl), hn.t0, hn.t1, hn.h1, hn.h6, hn.lg⟩
    refine (gstep_any hpin htk hp hgo hx).mono ?_
    rintro e w' ⟨rfl, A', h1, h2, k1, f1⟩
    have hs : ∀ k, A' k → k ≠ x.tb ∧ k ≠ x.m := fun k hk => (f1 k hk).elim (fun e => ⟨fun e2 => hnF _ (.inl rfl) (e2 ▸ e), fun e2 => hnF _ (.inr rfl) (e2 ▸ e)⟩) (fun e => ⟨fun e2 => by have := htk.lt.1; omega, fun e2 => by have := htk.lt.2; omega⟩)
    obtain ⟨A2, a1, a2, a3⟩ := hF.one (o' := { x with o := x.o.op v }) hj h1 (.inr ⟨h2.gv, h2⟩) (k1.mono fun k _ e => e.elim .inl (fun e => .inr (.inl e))) f1 (fun k hk => ⟨fun e => hk.elim (hs k e).1 (hs k e).2, .inl hk⟩)
    exact ⟨rfl, A2, ⟨A', a1⟩, a2, a3⟩
def newOb (o : PO) (e : Ending) (x : POb) : Prop := x.o = o ∧ e = .returned (.tuple #[.pointer (some ⟨x.tb, 0, none⟩), .int .i64 0])
theorem pools_take (h : (PoolsL c pb mb L).lie w A (s, ops)) (hok : c.ok) (th hh tr : Int) (t0 : 0 ≤ th) (t1 : th < 64) (k1 : 1 ≤ hh) (k6 : hh ≤ 6) (r0 : 0 ≤ tr) (r1 : tr ≤ 255) :
    Calls Tryz.prog 35 #[.pointer (some ⟨pb, 0, none⟩), .int .i64 th, .int .i64 hh, .int .i64 tr] w fun e w' => ∃ x, newOb (PO.take th hh.toNat tr) e x ∧ (PoolsL c pb mb L).To w A (s, ops ++ [x]) w' := by
  obtain ⟨F, hF⟩ := h
  obtain ⟨ob, gb, F1, G, hpa⟩ := hF.sys
  refine (ptake_ok hpa hok th hh tr t0 t1 k1 k6 r0 r1).mono ?_
  rintro e w' ⟨tb, m, rfl, h1, k1, n1, n2⟩
  have hs := (PoolL c pb mb L).lt hF.sys
  obtain ⟨A2, a1, a2, a3⟩ := hF.new (o := ⟨tb, m, _⟩) (F' := F) ((PoolL c pb mb L).keep hF.sys k1 (fun _ _ h => h)) (.inl ⟨rfl, h1⟩) (k1.mono fun _ _ h => h.elim) (fun _ h => .inl h) (fun k hk => by
    have : w.heap.size ≤ k := by rcases hk with rfl | rfl <;> assumption
    exact ⟨fun e => by have := hs k e; omega, this⟩)
  exact ⟨⟨tb, m, _⟩, ⟨rfl, rfl⟩, A2, ⟨F, a1⟩, a2, a3⟩
theorem pools_give (h : (PoolsL c pb mb L).lie w A (s, ops)) (hok : c.ok) (th tw : Int) (t0 : 0 ≤ th) (t1 : th < 64) (g1 : 1 ≤ tw) (g2 : tw ≤ c.nT) (hs : s.out tw = some false) (k : Nat) (hk : c.hs[tw.toNat - 1]? = some k) :
    Calls Tryz.prog 37 #[.pointer (some ⟨pb, 0, none⟩), .int .i64 th, .int .i64 tw] w fun e w' => ∃ x, newOb (PO.give th k tw) e x ∧ (PoolsL c pb mb L).To w A ({ s with out := pup s.out tw (some true) }, ops ++ [x]) w' := by
  obtain ⟨F, hF⟩ := h
  obtain ⟨ob, gb, F1, G, hpa⟩ := hF.sys
  refine (pgive_ok hpa hok th tw t0 t1 g1 g2 hs k hk).mono ?_
  rintro e w' ⟨tb, m, rfl, h0, h1, k1, n1, n2⟩
  have hs := (PoolL c pb mb L).lt hF.sys
  obtain ⟨A2, a1, a2, a3⟩ := hF.new (o := ⟨tb, m, _⟩) (F' := F) h0 (.inr ⟨rfl, h1⟩) k1 (fun _ h => .inl h) (fun k hk => by
    have : w.heap.size ≤ k := by rcases hk with rfl | rfl <;> assumption
    exact ⟨fun e => by have := hs k e; omega, this⟩)
  exact ⟨⟨tb, m, _⟩, ⟨rfl, rfl⟩, A2, ⟨F, a1⟩, a2, a3⟩
theorem pools_pa (h : (PoolsL c pb mb L).lie w A (s, ops)) : ∃ F ob gb F1 G, PA w F c pb mb L ob gb F1 G s := by
  obtain ⟨F, hF⟩ := h
  obtain ⟨ob, gb, F1, G, hpa⟩ := hF.sys
  exact ⟨F, ob, gb, F1, G, hpa⟩
theorem pools_tk (h : (PoolsL c pb mb L).lie w A (s, ops)) (hj : ops[j]? = some x) (hg : x.o.gv = false) : TkAt w x.tb x.m pb c x.o := by
  obtain ⟨F, hF⟩ := h
  rcases (hF.objs j x hj).1 with ⟨-, e⟩ | ⟨e, -⟩
  · exact e
  · rw [hg] at e; cases e
theorem pools_gv (h : (PoolsL c pb mb L).lie w A (s, ops)) (hj : ops[j]? = some x) (hg : x.o.gv = true) : GvAt w x.tb x.m pb c x.o := by
  obtain ⟨F, hF⟩ := h
  rcases (hF.objs j x hj).1 with ⟨e, -⟩ | ⟨-, e⟩
  · rw [hg] at e; cases e
  · exact e
end
end Go.Proofs.YtjghenomeindcaaGreat
