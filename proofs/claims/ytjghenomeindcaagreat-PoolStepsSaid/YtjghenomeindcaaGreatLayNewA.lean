/- layout.New: what it has made so far. -/
import Derived.Test.YtjghenomeindcaaGreatLayOps
import Derived.Test.YtjghenomeindcaaGreatLayPlace
set_option linter.unusedVariables false
set_option linter.unusedSimpArgs false
namespace Go.Lf
open Go.RowKit
theorem ty_ne {w : World} {b c : Nat} {x y : Array Value} {s t : TypeId} (h : w.heap[b]? = some (.cells x s (0, 0))) (k : w.heap[c]? = some (.cells y t (0, 0))) (hst : s ≠ t) : b ≠ c := by
  rintro rfl
  rw [h] at k
  injection k with k
  injection k with _ k _
  exact hst k
theorem rty_ne {w : World} {b : Nat} {x : Array Value} {e t : TypeId} {size n : Nat} {v : Value} {xs : List Value} (h : w.ownsRow 0 e size v n xs) (k : w.heap[b]? = some (.cells x t (0, 0))) (hst : e ≠ t) : v.ownBlock ≠ some b := by
  rcases h.2 with ⟨rfl, -⟩ | ⟨g, cap, cur, rfl, -, hg, -⟩
  · intro e; cases e
  · intro e; cases e; exact ty_ne hg k hst rfl
theorem rr_ne {w : World} {e t : TypeId} {s1 s2 n1 n2 : Nat} {v1 v2 : Value} {xs ys : List Value} (h : w.ownsRow 0 e s1 v1 n1 xs) (k : w.ownsRow 0 t s2 v2 n2 ys) (hst : e ≠ t) (j : Nat) (h1 : v1.ownBlock = some j) : v2.ownBlock ≠ some j := by
  rcases h.2 with ⟨rfl, -⟩ | ⟨g, cap, cur, rfl, -, hg, -⟩
  · cases h1
  · cases h1; exact rty_ne k hg hst.symm
end Go.Lf
namespace Go.Proofs.YtjghenomeindcaaGreat
open Go.RowKit Go.Lf
structure NA (w W : World) (cb lb L : Nat) (CB cs : Array Value) (ga : Option Addr) (gn gc : Nat) (ha : Option Addr) (hs : List Nat) (hc : Nat) (ta : Option Addr) (ts : List Nat) (tc : Nat) (a : Option Addr) (l : List Int) (cp : Nat) : Prop where
  own : Keep Nil w W
  box : W.heap[cb]? = some (.cells CB 42 (0, 0))
  lp : W.heap[lb]? = some (.cells #[.pointer (some ⟨L, 0, none⟩)] 48 (0, 0))
  obj : W.heap[L]? = some (.cells cs 152 (0, 0))
  size : cs.size = 30
  c26 : cs[26]? = some (.slice ga gn gc)
  c27 : cs[27]? = some (.slice ha hs.length hc)
  c28 : cs[28]? = some (.slice ta ts.length tc)
  grow : ∃ xs, W.ownsRow 0 169 4 (.slice ga gn gc) gn xs
  hrow : W.ownsRow 0 3 1 (.slice ha hs.length hc) hs.length (nums hs)
  trow : W.ownsRow 0 3 1 (.slice ta ts.length tc) ts.length (nums ts)
  cuts : Rd W 1 (.slice a l.length cp) l.length (u64s l)
  cne : ∀ k, (Value.slice a l.length cp).ownBlock = some k → w.heap.size ≤ k ∧ k < W.heap.size ∧ k ≠ L ∧ (Value.slice ga gn gc).ownBlock ≠ some k ∧ (Value.slice ha hs.length hc).ownBlock ≠ some k ∧ (Value.slice ta ts.length tc).ownBlock ≠ some k
  ht : ∀ k, (Value.slice ha hs.length hc).ownBlock = some k → (Value.slice ta ts.length tc).ownBlock ≠ some k
  Ln : w.heap.size ≤ L
  gnew : ∀ k, (Value.slice ga gn gc).ownBlock = some k → w.heap.size ≤ k
  hnew : ∀ k, (Value.slice ha hs.length hc).ownBlock = some k → w.heap.size ≤ k
  tnew : ∀ k, (Value.slice ta ts.length tc).ownBlock = some k → w.heap.size ≤ k
section
variable {w W W' : World} {cb lb ab L : Nat} {CB cs : Array Value} {ga : Option Addr} {gn gc : Nat} {ha : Option Addr} {hs : List Nat} {hc : Nat} {ta : Option Addr} {ts : List Nat} {tc : Nat} {a : Option Addr} {l : List Int} {cp : Nat}
theorem row_lt {w : World} {e : TypeId} {size n : Nat} {v : Value} {xs : List Value} (h : w.ownsRow 0 e size v n xs) (k : Nat) (hk : v.ownBlock = some k) : k < w.heap.size := (h.lt k hk).2
theorem NA.quiet (h : NA w W cb lb L CB cs ga gn gc ha hs hc ta ts tc a l cp) (hk : Keep Nil W W') : NA w W' cb lb L CB cs ga gn gc ha hs hc ta ts tc a l cp := by
  obtain ⟨xs, hg⟩ := h.grow
  exact ⟨h.own.trans hk (fun _ _ h => h), hk.at h.box (fun h => h), hk.at h.lp (fun h => h), hk.at h.obj (fun h => h), h.size, h.c26, h.c27, h.c28, ⟨xs, row_keep hg hk (fun _ _ h => h)⟩, row_keep h.hrow hk (fun _ _ h => h), row_keep h.trow hk (fun _ _ h => h), rd_keep h.cuts hk (fun _ _ h => h),
    fun k hk' => by obtain ⟨h1, h2, h3⟩ := h.cne k hk'; exact ⟨h1, by have := hk.size; omega, h3⟩, h.ht, h.Ln, h.gnew, h.hnew, h.tnew⟩
theorem NA.ne (h : NA w W cb lb L CB cs ga gn gc ha hs hc ta ts tc a l cp) : lb ≠ L ∧ L ≠ lb ∧ cb ≠ L ∧ L ≠ cb ∧ cb ≠ lb ∧ lb ≠ cb := by
  have h1 := ty_ne h.lp h.obj (by decide)
  have h2 := ty_ne h.box h.obj (by decide)
  have h3 := ty_ne h.box h.lp (by decide)
  exact ⟨h1, h1.symm, h2, h2.symm, h3, h3.symm⟩
theorem NA.cl (h : NA w W cb lb L CB cs ga gn gc ha hs hc ta ts tc a l cp) : W.cell? ⟨lb, 0, none⟩ = some (.pointer (some ⟨L, 0, none⟩)) := by rw [cell_of h.lp]; rfl
theorem NA.cell (h : NA w W cb lb L CB cs ga gn gc ha hs hc ta ts tc a l cp) {i : Nat} {v : Value} (hv : cs[i]? = some v) : W.cell? ⟨L, i, none⟩ = some v := by rw [cell_of h.obj]; exact hv
theorem NA.cellb (h : NA w W cb lb L CB cs ga gn gc ha hs hc ta ts tc a l cp) {i : Nat} {v : Value} (hv : CB[i]? = some v) : W.cell? ⟨cb, i, none⟩ = some v := by rw [cell_of h.box]; exact hv
theorem NA.fr (h : NA w W cb lb L CB cs ga gn gc ha hs hc ta ts tc a l cp) (i : Nat) : W.frozen? ⟨L, i, none⟩ = false := free_of h.obj i
theorem NA.setL (h : NA w W cb lb L CB cs ga gn gc ha hs hc ta ts tc a l cp) {i : Nat} (v : Value) (h6 : i ≠ 26) (h7 : i ≠ 27) (h8 : i ≠ 28) : NA w (W.setCell ⟨L, i, none⟩ v) cb lb L CB (cs.setIfInBounds i v) ga gn gc ha hs hc ta ts tc a l cp := by
  obtain ⟨xs, hg⟩ := h.grow
  have hk : Keep (fun k => k = L) W (W.setCell ⟨L, i, none⟩ v) := Keep.setCell (Keep.refl (fun k => k = L) W) (.inl rfl) _
  have n1 := rty_ne hg h.obj (by decide)
  have n2 := rty_ne h.hrow h.obj (by decide)
  have n3 := rty_ne h.trow h.obj (by decide)
  exact ⟨Keep.setCell h.own (.inr h.Ln) _, hk.at h.box h.ne.2.2.1, hk.at h.lp h.ne.1, set_same h.obj _, by simpa using h.size, by rw [Array.getElem?_setIfInBounds_ne h6]; exact h.c26, by rw [Array.getElem?_setIfInBounds_ne h7]; exact h.c27, by rw [Array.getElem?_setIfInBounds_ne h8]; exact h.c28, ⟨xs, row_keep hg hk (fun k hk e => n1 (by rw [hk, e]))⟩, row_keep h.hrow hk (fun k hk e => n2 (by rw [hk, e])), row_keep h.trow hk (fun k hk e => n3 (by rw [hk, e])), rd_keep h.cuts hk (fun k hk e => (h.cne k hk).2.2.1 e),
    fun k hk' => by obtain ⟨h1, h2, h3⟩ := h.cne k hk'; exact ⟨h1, by have := hk.size; omega, h3⟩, h.ht, h.Ln, h.gnew, h.hnew, h.tnew⟩
/-- The closure has placed a group. -/
theorem NA.place (h : NA w W cb lb L CB cs ga gn gc ha hs hc ta ts tc a l cp) {at1 : Int} (hp : PlaceAt W W' ab L cs 152 at1 ga gn gc) (at0 : Int) (hab : W.heap[ab]? = some (.cells #[.int .i64 at0] 3 (0, 0))) (a1 : (Value.slice ha hs.length hc).ownBlock ≠ some ab) (a2 : (Value.slice ta ts.length tc).ownBlock ≠ some ab) (a3 : (Value.slice a l.length cp).ownBlock ≠ some ab) (a4 : w.heap.size ≤ ab) :
    ∃ ga' gc', NA w W' cb lb L CB (cs.setIfInBounds 26 (.slice ga' (gn + 1) gc')) ga' (gn + 1) gc' ha hs hc ta ts tc a l cp ∧ W'.heap[ab]? = some (.cells #[.int .i64 at1] 3 (0, 0)) := by
  obtain ⟨xs, hg⟩ := h.grow
  obtain ⟨ga', gc', ys, ho, hr, hst⟩ := hp.res
  have hk := hp.keep
  have n1 := ty_ne h.box hab (by decide)
  have n2 := ty_ne h.lp hab (by decide)
  have m1 := rty_ne hg h.box (by decide)
  have m2 := rty_ne hg h.lp (by decide)
  have m3 := rty_ne h.hrow h.obj (by decide)
  have m4 := rty_ne h.trow h.obj (by decide)
  refine ⟨ga', gc', ⟨h.own.trans hk (fun k hlt e => ?_), hk.at h.box ?_, hk.at h.lp ?_, ho, by simpa using h.size, ?_, ?_, ?_, ⟨ys, hr⟩, row_keep h.hrow hk ?_, row_keep h.trow hk ?_, rd_keep h.cuts hk ?_, fun k hk' => ?_, h.ht, h.Ln, fun k hk' => ?_, h.hnew, h.tnew⟩, hp.atc⟩
  · rcases e with e | e | e
    · omega
    · have := h.Ln; omega
    · have := h.gnew k e; omega
  · rintro (e | e | e)
    · exact n1 e
    · exact h.ne.2.2.1 e
    · exact m1 e
  · rintro (e | e | e)
    · exact n2 e
    · exact h.ne.1 e
    · exact m2 e
  · rw [Array.getElem?_setIfInBounds_self_of_lt (by rw [h.size]; decide)]
  · rw [Array.getElem?_setIfInBounds_ne (by decide)]; exact h.c27
  · rw [Array.getElem?_setIfInBounds_ne (by decide)]; exact h.c28
  · rintro k hk' (e | e | e)
    · exact a1 (by rw [hk', e])
    · exact m3 (by rw [hk', e])
    · exact rr_ne hg h.hrow (by decide) k e hk'
  · rintro k hk' (e | e | e)
    · exact a2 (by rw [hk', e])
    · exact m4 (by rw [hk', e])
    · exact rr_ne hg h.trow (by decide) k e hk'
  · rintro k hk' (e | e | e)
    · exact a3 (by rw [hk', e])
    · exact (h.cne k hk').2.2.1 e
    · exact (h.cne k hk').2.2.2.1 e
  · obtain ⟨h1, h2, h3, h4, h5⟩ := h.cne k hk'
    exact ⟨h1, by have := hk.size; omega, h3, fun e => (hst k e).elim h4 (fun e => by omega), h5⟩
  · rcases hst k hk' with e | e
    · exact h.gnew k e
    · have := h.own.size; omega
/-- A height more. -/
theorem NA.apph (h : NA w W cb lb L CB cs ga gn gc ha hs hc ta ts tc a l cp) {ha' : Option Addr} {hc' x : Nat} {y : Int} (hy : y = (x : Int)) (hg : W.grownBy W' (Value.slice ha hs.length hc).ownBlock) (ho : W'.ownsRow 0 3 1 (.slice ha' (hs.length + 1) hc') (hs.length + 1) (nums hs ++ [.int .i64 y])) (hst : RowStep W (.slice ha hs.length hc) (.slice ha' (hs.length + 1) hc')) :
    (W'.heap[L]? = some (.cells cs 152 (0, 0)) ∧ W'.heap[lb]? = some (.cells #[.pointer (some ⟨L, 0, none⟩)] 48 (0, 0))) ∧ NA w (W'.setCell ⟨L, 27, none⟩ (.slice ha' (hs.length + 1) hc')) cb lb L CB (cs.setIfInBounds 27 (.slice ha' (hs.length + 1) hc')) ga gn gc ha' (hs ++ [x]) hc' ta ts tc a l cp := by
  subst hy
  obtain ⟨xs, hgr⟩ := h.grow
  have m1 := rty_ne h.hrow h.box (by decide)
  have m2 := rty_ne h.hrow h.lp (by decide)
  have m3 := rty_ne h.hrow h.obj (by decide)
  have n1 := rty_ne hgr h.obj (by decide)
  have n3 := rty_ne h.trow h.obj (by decide)
  have kk : Keep (fun k => k = L ∨ (Value.slice ha hs.length hc).ownBlock = some k) W W' := (Keep.refl _ W).grown hg (fun k e => .inl (.inr e))
  have k2 : Keep (fun k => k = L ∨ (Value.slice ha hs.length hc).ownBlock = some k) W (W'.setCell ⟨L, 27, none⟩ (.slice ha' (hs.length + 1) hc')) := kk.setCell (.inl (.inl rfl)) _
  have o1 : W'.heap[L]? = some (.cells cs 152 (0, 0)) := by rw [hg.block L (lt_of_block h.obj) (fun e => m3 e.symm)]; exact h.obj
  have o2 : W'.heap[lb]? = some (.cells #[.pointer (some ⟨L, 0, none⟩)] 48 (0, 0)) := kk.at h.lp (by rintro (e | e); exact h.ne.1 e; exact m2 e)
  have hnb : (Value.slice ha' (hs.length + 1) hc').ownBlock ≠ some L := fun e => by
    rcases hst L e with e | e
    · exact m3 e
    · have := lt_of_block h.obj; omega
  refine ⟨⟨o1, o2⟩, ⟨h.own.trans k2 (fun k hlt e => ?_), k2.at h.box ?_, set_other o2 h.ne.1 _, set_same o1 _, by simpa using h.size, ?_, ?_, ?_, ⟨xs, row_keep hgr k2 ?_⟩, ?_, row_keep h.trow k2 ?_, rd_keep h.cuts k2 ?_, fun k hk' => ?_, fun k hk' => ?_, h.Ln, h.gnew, fun k hk' => ?_, h.tnew⟩⟩
  · rcases e with e | e
    · have := h.Ln; omega
    · have := h.hnew k e; omega
  · rintro (e | e)
    · exact h.ne.2.2.1 e
    · exact m1 e
  · rw [Array.getElem?_setIfInBounds_ne (by decide)]; exact h.c26
  · rw [Array.getElem?_setIfInBounds_self_of_lt (by rw [h.size]; decide), List.length_append]; rfl
  · rw [Array.getElem?_setIfInBounds_ne (by decide)]; exact h.c28
  · rintro k hk' (e | e)
    · exact n1 (by rw [hk', e])
    · exact rr_ne hgr h.hrow (by decide) k hk' e
  · have := ownsRow_setCell_other (a := ⟨L, 27, none⟩) ho hnb (.slice ha' (hs.length + 1) hc')
    rw [List.length_append, nums_snoc]
    exact this
  · rintro k hk' (e | e)
    · exact n3 (by rw [hk', e])
    · exact h.ht k e hk'
  · rintro k hk' (e | e)
    · exact (h.cne k hk').2.2.1 e
    · exact (h.cne k hk').2.2.2.2.1 e
  · obtain ⟨h1, h2, h3, h4, h5, h6⟩ := h.cne k hk'
    rw [List.length_append]
    exact ⟨h1, by have := k2.size; omega, h3, h4, fun e => (hst k e).elim h5 (fun e => by omega), h6⟩
  · rw [List.length_append] at hk'
    intro e
    rcases hst k hk' with e' | e'
    · exact h.ht k e' e
    · have := row_lt h.trow k e; omega
  · rw [List.length_append] at hk'
    rcases hst k hk' with e | e
    · exact h.hnew k e
    · have := h.own.size; omega
/-- A tower more. -/
theorem NA.appt (h : NA w W cb lb L CB cs ga gn gc ha hs hc ta ts tc a l cp) {ta' : Option Addr} {tc' x : Nat} {y : Int} (hy : y = (x : Int)) (hg : W.grownBy W' (Value.slice ta ts.length tc).ownBlock) (ho : W'.ownsRow 0 3 1 (.slice ta' (ts.length + 1) tc') (ts.length + 1) (nums ts ++ [.int .i64 y])) (hst : RowStep W (.slice ta ts.length tc) (.slice ta' (ts.length + 1) tc')) :
    (W'.heap[L]? = some (.cells cs 152 (0, 0)) ∧ W'.heap[lb]? = some (.cells #[.pointer (some ⟨L, 0, none⟩)] 48 (0, 0))) ∧ NA w (W'.setCell ⟨L, 28, none⟩ (.slice ta' (ts.length + 1) tc')) cb lb L CB (cs.setIfInBounds 28 (.slice ta' (ts.length + 1) tc')) ga gn gc ha hs hc ta' (ts ++ [x]) tc' a l cp := by
  subst hy
  obtain ⟨xs, hgr⟩ := h.grow
  have m1 := rty_ne h.trow h.box (by decide)
  have m2 := rty_ne h.trow h.lp (by decide)
  have m3 := rty_ne h.trow h.obj (by decide)
  have n1 := rty_ne hgr h.obj (by decide)
  have n3 := rty_ne h.hrow h.obj (by decide)
  have kk : Keep (fun k => k = L ∨ (Value.slice ta ts.length tc).ownBlock = some k) W W' := (Keep.refl _ W).grown hg (fun k e => .inl (.inr e))
  have k2 : Keep (fun k => k = L ∨ (Value.slice ta ts.length tc).ownBlock = some k) W (W'.setCell ⟨L, 28, none⟩ (.slice ta' (ts.length + 1) tc')) := kk.setCell (.inl (.inl rfl)) _
  have o1 : W'.heap[L]? = some (.cells cs 152 (0, 0)) := by rw [hg.block L (lt_of_block h.obj) (fun e => m3 e.symm)]; exact h.obj
  have o2 : W'.heap[lb]? = some (.cells #[.pointer (some ⟨L, 0, none⟩)] 48 (0, 0)) := kk.at h.lp (by rintro (e | e); exact h.ne.1 e; exact m2 e)
  have hnb : (Value.slice ta' (ts.length + 1) tc').ownBlock ≠ some L := fun e => by
    rcases hst L e with e | e
    · exact m3 e
    · have := lt_of_block h.obj; omega
  refine ⟨⟨o1, o2⟩, ⟨h.own.trans k2 (fun k hlt e => ?_), k2.at h.box ?_, set_other o2 h.ne.1 _, set_same o1 _, by simpa using h.size, ?_, ?_, ?_, ⟨xs, row_keep hgr k2 ?_⟩, row_keep h.hrow k2 ?_, ?_, rd_keep h.cuts k2 ?_, fun k hk' => ?_, fun k hk' => ?_, h.Ln, h.gnew, h.hnew, fun k hk' => ?_⟩⟩
  · rcases e with e | e
    · have := h.Ln; omega
    · have := h.tnew k e; omega
  · rintro (e | e)
    · exact h.ne.2.2.1 e
    · exact m1 e
  · rw [Array.getElem?_setIfInBounds_ne (by decide)]; exact h.c26
  · rw [Array.getElem?_setIfInBounds_ne (by decide)]; exact h.c27
  · rw [Array.getElem?_setIfInBounds_self_of_lt (by rw [h.size]; decide), List.length_append]; rfl
  · rintro k hk' (e | e)
    · exact n1 (by rw [hk', e])
    · exact rr_ne hgr h.trow (by decide) k hk' e
  · rintro k hk' (e | e)
    · exact n3 (by rw [hk', e])
    · exact h.ht k hk' e
  · have := ownsRow_setCell_other (a := ⟨L, 28, none⟩) ho hnb (.slice ta' (ts.length + 1) tc')
    rw [List.length_append, nums_snoc]
    exact this
  · rintro k hk' (e | e)
    · exact (h.cne k hk').2.2.1 e
    · exact (h.cne k hk').2.2.2.2.2 e
  · obtain ⟨h1, h2, h3, h4, h5, h6⟩ := h.cne k hk'
    rw [List.length_append]
    exact ⟨h1, by have := k2.size; omega, h3, h4, h5, fun e => (hst k e).elim h6 (fun e => by omega)⟩
  · rw [List.length_append]
    intro e
    rcases hst k e with e' | e'
    · exact h.ht k hk' e'
    · have := row_lt h.hrow k hk'; omega
  · rw [List.length_append] at hk'
    rcases hst k hk' with e | e
    · exact h.tnew k e
    · have := h.own.size; omega
end
/-- What a configuration is as it comes in. -/
structure CT where
  c : Cfg
  t1 : Nat
  t2 : Nat
  t3 : Nat
  t4 : Nat
  t5 : Nat
  t6 : Nat
  a : Option Addr
  cp : Nat
@[reducible] def CT.box (x : CT) : Array Value := #[.int .i64 x.c.th, .int .i64 x.c.sl, .int .u8 x.c.eng, .int .i64 x.c.bk, .int .u8 x.c.d.k, .int .i64 x.c.d.n, .slice x.a x.c.d.cuts.length x.cp, .int .i64 x.t1, .int .i64 x.t2, .int .i64 x.t3, .int .i64 x.t4, .int .i64 x.t5, .int .i64 x.t6, .int .i64 x.c.lk, .int .i64 x.c.tr, .int .i64 x.c.ba]
@[reducible] def CT.cells (x : CT) (p : Nat → Int) (g h t : Value) (v : Int) : Array Value := layC x.c x.t1 x.t2 x.t3 x.t4 x.t5 x.t6 x.a x.cp (p 0) (p 1) (p 2) (p 3) (p 4) (p 5) (p 6) (p 7) (p 8) (p 9) g h t v
def upd (p : Nat → Int) (j : Nat) (v : Int) : Nat → Int := fun i => if i = j then v else p i
theorem CT.set_p (x : CT) (p : Nat → Int) (g h t : Value) (v : Int) {j : Nat} (hj : j < 10) (u : Int) : (x.cells p g h t v).setIfInBounds (16 + j) (.int .i64 u) = x.cells (upd p j u) g h t v := by
  have : j = 0 ∨ j = 1 ∨ j = 2 ∨ j = 3 ∨ j = 4 ∨ j = 5 ∨ j = 6 ∨ j = 7 ∨ j = 8 ∨ j = 9 := by omega
  rcases this with rfl | rfl | rfl | rfl | rfl | rfl | rfl | rfl | rfl | rfl <;> rfl
theorem CT.get_p (x : CT) (p : Nat → Int) (g h t : Value) (v : Int) {j : Nat} (hj : j < 10) : (x.cells p g h t v)[16 + j]? = some (.int .i64 (p j)) := by
  have : j = 0 ∨ j = 1 ∨ j = 2 ∨ j = 3 ∨ j = 4 ∨ j = 5 ∨ j = 6 ∨ j = 7 ∨ j = 8 ∨ j = 9 := by omega
  rcases this with rfl | rfl | rfl | rfl | rfl | rfl | rfl | rfl | rfl | rfl <;> rfl
/-- The heights are being laid. -/
def NH (w W : World) (x : CT) (cb lb L : Nat) (l : List Nat) : Prop :=
  ∃ ha hc, NA w W cb lb L x.box (x.cells (fun _ => 0) (.slice none 0 0) (.slice ha l.length hc) (.slice none 0 0) x.c.d.cnt) none 0 0 ha l hc none [] 0 x.a x.c.d.cuts x.cp
/-- The groups are being placed. -/
structure NP (w W : World) (x : CT) (cb lb ab L : Nat) (p : Nat → Int) (at' : Int) (n : Nat) (ha : Option Addr) (l : List Nat) (hc : Nat) (ts : List Nat) : Prop where
  ex : ∃ ga gc ta tc, NA w W cb lb L x.box (x.cells p (.slice ga n gc) (.slice ha l.length hc) (.slice ta ts.length tc) x.c.d.cnt) ga n gc ha l hc ta ts tc x.a x.c.d.cuts x.cp ∧ (Value.slice ta ts.length tc).ownBlock ≠ some ab
  atc : W.heap[ab]? = some (.cells #[.int .i64 at'] 3 (0, 0))
  a1 : (Value.slice ha l.length hc).ownBlock ≠ some ab
  a3 : (Value.slice x.a x.c.d.cuts.length x.cp).ownBlock ≠ some ab
  a4 : w.heap.size ≤ ab
theorem infoIntL : (Tryz.prog.info? 3).map (fun i => (i.zero, i.size, i.bytes)) = some (some (.int .i64 0), 1, 8) := by kernel_rfl
section
variable {w W W' : World} {x : CT} {cb lb ab L : Nat} {p : Nat → Int} {at' : Int} {n : Nat} {ha : Option Addr} {l : List Nat} {hc : Nat} {ts : List Nat}
theorem NP.quiet (h : NP w W x cb lb ab L p at' n ha l hc ts) (hk : Keep Nil W W') : NP w W' x cb lb ab L p at' n ha l hc ts := by
  obtain ⟨ga, gc, ta, tc, N, a2⟩ := h.ex
  exact ⟨⟨ga, gc, ta, tc, N.quiet hk, a2⟩, hk.at h.atc (fun h => h), h.a1, h.a3, h.a4⟩
theorem NP.nea (h : NP w W x cb lb ab L p at' n ha l hc ts) : L ≠ ab ∧ ab ≠ L ∧ lb ≠ ab ∧ ab ≠ lb := by
  obtain ⟨ga, gc, ta, tc, N, a2⟩ := h.ex
  have h1 := ty_ne N.obj h.atc (by decide)
  have h2 := ty_ne N.lp h.atc (by decide)
  exact ⟨h1, h1.symm, h2, h2.symm⟩
theorem NP.store (h : NP w W x cb lb ab L p at' n ha l hc ts) {j : Nat} (hj : j < 10) (u : Int) : NP w (W.setCell ⟨L, 16 + j, none⟩ (.int .i64 u)) x cb lb ab L (upd p j u) at' n ha l hc ts := by
  obtain ⟨ga, gc, ta, tc, N, a2⟩ := h.ex
  refine ⟨⟨ga, gc, ta, tc, ?_, a2⟩, set_other h.atc h.nea.2.1 _, h.a1, h.a3, h.a4⟩
  rw [← CT.set_p _ _ _ _ _ _ hj]
  exact N.setL _ (by omega) (by omega) (by omega)
theorem NP.stat (h : NP w W x cb lb ab L p at' n ha l hc ts) (u : Int) : NP w (W.setCell ⟨ab, 0, none⟩ (.int .i64 u)) x cb lb ab L p u n ha l hc ts := by
  obtain ⟨ga, gc, ta, tc, N, a2⟩ := h.ex
  obtain ⟨xs, hg⟩ := N.grow
  have hk : Keep (fun k => k = ab) W (W.setCell ⟨ab, 0, none⟩ (.int .i64 u)) := Keep.setCell (Keep.refl (fun k => k = ab) W) (.inl rfl) _
  have n1 := ty_ne N.box h.atc (by decide)
  have n2 := rty_ne hg h.atc (by decide)
  refine ⟨⟨ga, gc, ta, tc, ⟨N.own.setCell (.inr h.a4) _, hk.at N.box n1, hk.at N.lp h.nea.2.2.1, hk.at N.obj h.nea.1, N.size, N.c26, N.c27, N.c28, ⟨xs, row_keep hg hk (fun k hk e => n2 (by rw [hk, e]))⟩, row_keep N.hrow hk (fun k hk e => h.a1 (by rw [hk, e])), row_keep N.trow hk (fun k hk e => a2 (by rw [hk, e])), rd_keep N.cuts hk (fun k hk e => h.a3 (by rw [hk, e])), fun k hk' => ?_, N.ht, N.Ln, N.gnew, N.hnew, N.tnew⟩, a2⟩, set_same h.atc _, h.a1, h.a3, h.a4⟩
  obtain ⟨h1, h2, h3⟩ := N.cne k hk'
  exact ⟨h1, by have := hk.size; omega, h3⟩
theorem np_ok (h : NP w W x cb lb ab L p at' n ha l hc ts) (k many words : Int) (hn : n ≤ 1000) (k0 : 0 ≤ k) (k1 : k ≤ 255) (p0 : 0 ≤ many * words) (p1 : many * words ≤ 1000000) (b0 : 0 ≤ at') (b1 : at' ≤ 1000000) (at2 : Int) (ha2 : at2 = at' + many * words) :
    Calls Tryz.prog 71 #[.int .u8 k, .int .i64 many, .int .i64 words, .pointer (some ⟨ab, 0, none⟩), .pointer (some ⟨lb, 0, none⟩)] W fun e w' => e = .returned (.int .i64 at') ∧ NP w w' x cb lb ab L p at2 (n + 1) ha l hc ts := by
  obtain ⟨ga, gc, ta, tc, N, a2⟩ := h.ex
  obtain ⟨xs, hg⟩ := N.grow
  have n1 := rty_ne hg N.obj (by decide)
  have n2 := rty_ne hg h.atc (by decide)
  have n4 := rty_ne hg N.lp (by decide)
  refine (place_ok k many words at' ab lb L _ ga n gc xs h.atc N.lp N.obj N.size N.c26 hg n1 n2 h.nea.1 n4 hn k0 k1 p0 p1 b0 b1).mono ?_
  rintro e w' ⟨rfl, hp⟩
  subst ha2
  obtain ⟨ga', gc', N', hat⟩ := N.place hp at' h.atc h.a1 a2 h.a3 h.a4
  exact ⟨rfl, ⟨ga', gc', ta, tc, N', a2⟩, hat, h.a1, h.a3, h.a4⟩
theorem NP.facts (h : NP w W x cb lb ab L p at' n ha l hc ts) {j : Nat} (hj : j < 10) : W.cell? ⟨lb, 0, none⟩ = some (.pointer (some ⟨L, 0, none⟩)) ∧ W.cell? ⟨L, 16 + j, none⟩ = some (.int .i64 (p j)) ∧ W.frozen? ⟨L, 16 + j, none⟩ = false ∧ W.cell? ⟨L, 27, none⟩ = some (.slice ha l.length hc) ∧ W.cell? ⟨L, 29, none⟩ = some (.int .i64 x.c.d.cnt) ∧ W.cell? ⟨ab, 0, none⟩ = some (.int .i64 at') := by
  obtain ⟨ga, gc, ta, tc, N, a2⟩ := h.ex
  exact ⟨N.cl, N.cell (CT.get_p _ _ _ _ _ _ hj), N.fr _, N.cell rfl, N.cell rfl, by rw [cell_of h.atc]; rfl⟩
theorem NP.bx (h : NP w W x cb lb ab L p at' n ha l hc ts) {i : Nat} {v : Value} (hv : x.box[i]? = some v) : W.cell? ⟨cb, i, none⟩ = some v := by
  obtain ⟨ga, gc, ta, tc, N, a2⟩ := h.ex
  exact N.cellb hv
theorem hts_take_le (l : List Nat) (k : Nat) : (hts 1 (l.take k)).length ≤ (hts 1 l).length := by
  have := congrArg List.length (hts_append 1 (l.take k) (l.drop k))
  rw [List.take_append_drop, List.length_append] at this
  omega
end
/-- A layout that lies at blocks of its own. -/
structure LayOn (W : World) (L : Nat) (c : Cfg) (G : Nat → Prop) : Prop where
  at_ : LayAt W L c
  hold : ∀ (W' : World) (S : Nat → Prop), Keep S W W' → (∀ k, G k → ¬ S k) → LayAt W' L c
theorem LayOn.keep {W W' : World} {L : Nat} {c : Cfg} {G S : Nat → Prop} (h : LayOn W L c G) (hk : Keep S W W') (hn : ∀ k, G k → ¬ S k) : LayOn W' L c G :=
  ⟨h.hold W' S hk hn, fun W2 T hk2 hn2 => h.hold W2 (fun k => S k ∨ T k) ((hk.mono (T := fun k => S k ∨ T k) (fun k _ h => .inl h)).trans hk2 (fun k _ h => .inr h)) (fun k hG e => e.elim (hn k hG) (hn2 k hG))⟩
def NewTo (w : World) (c : Cfg) (e : Ending) (w' : World) : Prop := ∃ L G, e = .returned (.tuple #[.pointer (some ⟨L, 0, none⟩), .int .i64 0]) ∧ LayOn w' L c G ∧ Keep Nil w w' ∧ ∀ k, G k → w.heap.size ≤ k ∧ k < w'.heap.size
theorem NA.done {w W : World} {x : CT} {cb lb L : Nat} {ga : Option Addr} {gn gc : Nat} {ha : Option Addr} {hc : Nat} {ta : Option Addr} {tc : Nat} {p : Nat → Int} {hs ts : List Nat} (htw : x.c.tw = [x.t1, x.t2, x.t3, x.t4, x.t5, x.t6]) (hhs : hs = x.c.hs) (hts : ts = tows x.c.towers x.c.hs)
    (h : NA w W cb lb L x.box (x.cells p (.slice ga gn gc) (.slice ha hs.length hc) (.slice ta ts.length tc) x.c.d.cnt) ga gn gc ha hs hc ta ts tc x.a x.c.d.cuts x.cp)
    (q0 : p 0 = 0) (q1 : p 1 = x.c.engine) (q2 : p 2 = x.c.master) (q3 : p 3 = x.c.locks) (q4 : p 4 = x.c.descs) (q5 : p 5 = x.c.pools) (q6 : p 6 = x.c.links) (q7 : p 7 = x.c.heads) (q8 : p 8 = x.c.towers) (q9 : p 9 = x.c.words) :
    NewTo w x.c (.returned (.tuple #[.pointer (some ⟨L, 0, none⟩), .int .i64 0])) W := by
  subst hhs hts
  have hl : (tows x.c.towers x.c.hs).length = x.c.nT := tows_len _ _
  have hl2 : x.c.hs.length = x.c.nT := rfl
  obtain ⟨own, box, lp, obj, size, c26, c27, c28, grow, hrow, trow, cuts, cne, ht, Ln, gnew, hnew, tnew⟩ := h
  rw [hl] at trow cne ht tnew obj
  rw [hl2] at hrow cne ht hnew obj
  simp only [CT.cells] at obj
  rw [q0, q1, q2, q3, q4, q5, q6, q7, q8, q9] at obj
  let G : Nat → Prop := fun k => k = L ∨ (Value.slice x.a x.c.d.cuts.length x.cp).ownBlock = some k ∨ (Value.slice ha x.c.nT hc).ownBlock = some k ∨ (Value.slice ta x.c.nT tc).ownBlock = some k
  have all : ∀ (W' : World) (S : Nat → Prop), Keep S W W' → (∀ k, G k → ¬ S k) → LayAt W' L x.c := fun W' S hk hn =>
    ⟨x.t1, x.t2, x.t3, x.t4, x.t5, x.t6, x.a, x.cp, .slice ga gn gc, ha, hc, ta, tc, htw, hk.at obj (hn L (.inl rfl)), rd_keep cuts hk (fun k e => hn k (.inr (.inl e))), rd_keep (row_rd hrow) hk (fun k e => hn k (.inr (.inr (.inl e)))), rd_keep (row_rd trow) hk (fun k e => hn k (.inr (.inr (.inr e))))⟩
  refine ⟨L, G, rfl, ⟨all W Nil (Keep.refl _ _) (fun _ _ h => h), all⟩, own, fun k hk => ?_⟩
  rcases hk with rfl | e | e | e
  · exact ⟨Ln, lt_of_block obj⟩
  · exact ⟨(cne k e).1, (cne k e).2.1⟩
  · exact ⟨hnew k e, row_lt hrow k e⟩
  · exact ⟨tnew k e, row_lt trow k e⟩
theorem NH.app {w W W' : World} {x : CT} {cb lb L : Nat} {ha : Option Addr} {hc : Nat} {l : List Nat} (h : NA w W cb lb L x.box (x.cells (fun _ => 0) (.slice none 0 0) (.slice ha l.length hc) (.slice none 0 0) x.c.d.cnt) none 0 0 ha l hc none [] 0 x.a x.c.d.cuts x.cp) {ha' : Option Addr} {hc' k : Nat} {y : Int} (hy : y = (k : Int)) (hg : W.grownBy W' (Value.slice ha l.length hc).ownBlock) (ho : W'.ownsRow 0 3 1 (.slice ha' (l.length + 1) hc') (l.length + 1) (nums l ++ [.int .i64 y])) (hst : RowStep W (.slice ha l.length hc) (.slice ha' (l.length + 1) hc')) :
    (W'.cell? ⟨L, 27, none⟩ = some (.slice ha l.length hc) ∧ W'.frozen? ⟨L, 27, none⟩ = false ∧ W'.cell? ⟨lb, 0, none⟩ = some (.pointer (some ⟨L, 0, none⟩))) ∧ NH w (W'.setCell ⟨L, 27, none⟩ (.slice ha' (l.length + 1) hc')) x cb lb L (l ++ [k]) := by
  obtain ⟨⟨o1, o2⟩, N⟩ := h.apph hy hg ho hst
  refine ⟨⟨by rw [cell_of o1]; exact h.c27, free_of o1 27, by rw [cell_of o2]; rfl⟩, ha', hc', ?_⟩
  rw [List.length_append]
  exact N
theorem NP.begin {w W : World} {x : CT} {cb lb L : Nat} {l : List Nat} (h : NH w W x cb lb L l) : ∃ ha hc, NP w (W.alloc (.cells #[.int .i64 0] 3 (0, 0))) x cb lb W.heap.size L (fun _ => 0) 0 0 ha l hc [] := by
  obtain ⟨ha, hc, N⟩ := h
  refine ⟨ha, hc, ⟨none, 0, none, 0, N.quiet ((Keep.refl Nil W).alloc _), by simp [Value.ownBlock]⟩, heap_alloc_new W _, fun e => ?_, fun e => ?_, N.own.size⟩
  · have := row_lt N.hrow _ e; omega
  · have := (N.cne _ e).2.1; omega
theorem NP.appt {w W W' : World} {x : CT} {cb lb ab L : Nat} {p : Nat → Int} {at' : Int} {n : Nat} {ha : Option Addr} {l : List Nat} {hc : Nat} {ts : List Nat} {ga : Option Addr} {gc : Nat} {ta : Option Addr} {tc : Nat} (h : NP w W x cb lb ab L p at' n ha l hc ts)
    (N : NA w W cb lb L x.box (x.cells p (.slice ga n gc) (.slice ha l.length hc) (.slice ta ts.length tc) x.c.d.cnt) ga n gc ha l hc ta ts tc x.a x.c.d.cuts x.cp) (a2 : (Value.slice ta ts.length tc).ownBlock ≠ some ab)
    {ta' : Option Addr} {tc' k : Nat} {y : Int} (hy : y = (k : Int)) (hg : W.grownBy W' (Value.slice ta ts.length tc).ownBlock) (ho : W'.ownsRow 0 3 1 (.slice ta' (ts.length + 1) tc') (ts.length + 1) (nums ts ++ [.int .i64 y])) (hst : RowStep W (.slice ta ts.length tc) (.slice ta' (ts.length + 1) tc')) :
    (W'.cell? ⟨L, 28, none⟩ = some (.slice ta ts.length tc) ∧ W'.frozen? ⟨L, 28, none⟩ = false ∧ W'.cell? ⟨lb, 0, none⟩ = some (.pointer (some ⟨L, 0, none⟩)) ∧ W'.cell? ⟨ab, 0, none⟩ = some (.int .i64 at')) ∧ NP w (W'.setCell ⟨L, 28, none⟩ (.slice ta' (ts.length + 1) tc')) x cb lb ab L p at' n ha l hc (ts ++ [k]) := by
  obtain ⟨⟨o1, o2⟩, N'⟩ := N.appt hy hg ho hst
  have o3 : W'.heap[ab]? = some (.cells #[.int .i64 at'] 3 (0, 0)) := by rw [hg.block ab (lt_of_block h.atc) (fun e => a2 e.symm)]; exact h.atc
  refine ⟨⟨by rw [cell_of o1]; exact N.c28, free_of o1 28, by rw [cell_of o2]; rfl, by rw [cell_of o3]; rfl⟩, ⟨ga, gc, ta', tc', ?_, fun e => ?_⟩, set_other o3 h.nea.2.1 _, h.a1, h.a3, h.a4⟩
  · rw [List.length_append]
    exact N'
  · rw [List.length_append] at e
    rcases hst ab e with e' | e'
    · exact a2 e'
    · have := lt_of_block h.atc; omega
structure Plc (c : Cfg) : Prop where
  e1 : (c.engine : Int) = 0 + (c.sl : Int) * 1
  e2 : (c.master : Int) = (c.engine : Int) + 1 * (c.engW : Int)
  e3 : (c.locks : Int) = (c.master : Int) + 1 * 1
  e4 : (c.descs : Int) = (c.locks : Int) + (c.lk : Int) * 3
  e5 : (c.pools : Int) = (c.descs : Int) + (c.lk : Int) * 1
  e6 : (c.links : Int) = (c.pools : Int) + 6 * 1
  e7 : (c.heads : Int) = (c.links : Int) + (c.hs.length : Int) * 1
  e8 : (c.towers : Int) = (c.heads : Int) + (c.d.cnt : Int) * 7
  b : c.sl ≤ 64 ∧ c.engW ≤ 128 ∧ c.lk ≤ 16 ∧ c.hs.length ≤ 1024 ∧ c.d.cnt ≤ 64
theorem plc_ok {c : Cfg} (h : c.ok) : Plc c := by
  have h1 : c.engine = c.sl := rfl
  have h2 : c.master = c.engine + c.engW := rfl
  have h3 : c.locks = c.master + 1 := rfl
  have h4 : c.descs = c.locks + c.lk * 3 := rfl
  have h5 : c.pools = c.descs + c.lk := rfl
  have h6 : c.links = c.pools + 6 := rfl
  have h7 : c.heads = c.links + c.hs.length := rfl
  have h8 : c.towers = c.heads + c.d.cnt * 7 := rfl
  have h9 : c.hs.length ≤ 1024 := h.nT
  exact ⟨by omega, by omega, by omega, by omega, by omega, by omega, by omega, by omega, h.sl2, h.engW, h.lk2, h9, (Dom.cnt_pos h.d).2⟩
end Go.Proofs.YtjghenomeindcaaGreat
