/- A store, a read and what can be seen, beside blocks of others: the contracts. -/
import Derived.Test.YtmafdjhjmnghcaaGreatReadShown
import Derived.Test.YtmafdjhjmnghcaaGreatWdOk
import Derived.Test.YtmafdjhjmnghcaaGreatReadTI
set_option linter.unusedVariables false
set_option linter.unusedSimpArgs false
namespace Go.Proofs.YtmafdjhjmnghcaaGreat
open Go.RowKit Go.Lf
/-- The view that new words give. -/
theorem init_view {c : Cfg} (h : c.ok) (hn : 0 < c.nT) : ∃ s v a, VL c.lk (c.tow 0) c.descs (ints c.init) ⟨s, v, a, fun _ => 0⟩ := by
  obtain ⟨hT1, hT2⟩ := c.tow_rng hn
  obtain ⟨-, -, -, -, hp1, hp2, hp3, hp4, hp5⟩ := plc_lt c
  have hl := init_length c
  have get : ∀ k, k < c.words → ∃ x, (ints c.init)[k]? = some x := fun k hk => ⟨_, List.getElem?_eq_getElem (by omega)⟩
  obtain ⟨s, hs⟩ := get (c.tow 0 + 4) (by omega)
  obtain ⟨v, hv⟩ := get (c.tow 0 + 1) (by omega)
  obtain ⟨a, ha⟩ := get (c.tow 0 + 2) (by omega)
  exact ⟨s, v, a, hs, hv, ha, fun e he => init_zero c (by omega), by omega⟩
/-- A store whose view is known. -/
structure VS (base wr : World) (c : Cfg) (b mb : Nat) (x : Vw) (n : Nat) : Prop where
  ex : ∃ ws log, SW base wr c b mb ws log ∧ WdOk c ws ∧ VL c.lk (c.tow 0) c.descs ws x ∧ log.length ≤ n
/-- And a read; O: blocks of others. -/
structure RV (base wr : World) (O : Nat → Prop) (c : Cfg) (b mb : Nat) (x : Vw) (n r : Nat) (s : RS) : Prop where
  ex : ∃ A ws log, (StoreL c b mb).lie wr A (ws, log) ∧ (∀ k, A k → base.heap.size ≤ k) ∧ ¬ A r ∧ (∀ k, O k → ¬ A k ∧ k ≠ r ∧ k < wr.heap.size) ∧ WdOk c ws ∧ VL c.lk (c.tow 0) c.descs ws x ∧ log.length ≤ n
  at_ : ReadAt wr r b s
  ge : base.heap.size ≤ r
  own : Keep Nil base wr
section
variable {base wr w' : World} {O O' : Nat → Prop} {c : Cfg} {b mb n r : Nat} {x : Vw} {s : RS} {ws : List Int} {log : List Acc}
theorem WSt.lt {st : WSt} (hf : st.fit c.lk) (hn : 0 < c.nT) : st.addr (c.tow 0) c.descs < c.words := by
  obtain ⟨hT1, hT2⟩ := c.tow_rng hn
  obtain ⟨-, -, -, -, hp1, hp2, hp3, hp4, hp5⟩ := plc_lt c
  cases st with
  | D e y => have hf : e < c.lk := hf; show c.descs + e < _; omega
  | S y => show c.tow 0 + 4 < _; omega
  | V y => show c.tow 0 + 1 < _; omega
  | A y => show c.tow 0 + 2 < _; omega
/-- A store has been made. -/
def VPutTo (base : World) (c : Cfg) (b mb : Nat) (x : Vw) (n : Nat) (e : Ending) (w' : World) : Prop := e = .returned (.int .i64 0) ∧ VS base w' c b mb x n
theorem vs_put (h : VS base wr c b mb x n) (hn : 0 < c.nT) (st : WSt) (hst : st.rng c.lk) (a v : Int) (ha : a = st.addr (c.tow 0) c.descs) (hv : v = st.val) (hl : n < 1000000) :
    Calls Tryz.prog 25 #[.pointer (some ⟨mb, 0, none⟩), .int .i64 0, .int .i64 a, .int .u64 v] wr (VPutTo base c b mb (x.put st) (n + 1)) := by
  obtain ⟨ws, log, hs, hw, hvl, hlog⟩ := h.ex
  subst hv
  refine (sw_put hs hw 0 a st.val (by decide) (by decide) _ ha (WSt.lt hst.fit hn) hst.v0 hst.v1 (by omega)).mono ?_
  rintro e w' ⟨rfl, log', hl', hs', hw'⟩
  exact ⟨rfl, ws.set _ st.val, log', hs', hw', hvl.put st hst.fit, by omega⟩
theorem VS.quiet (h : VS base wr c b mb x n) (hk : Keep Nil wr w') : VS base w' c b mb x n := by
  obtain ⟨ws, log, hs, hw, hvl, hlog⟩ := h.ex
  exact ⟨ws, log, hs.quiet hk, hw, hvl, hlog⟩
theorem VS.sw (h : VS base wr c b mb x n) : ∃ ws log, SW base wr c b mb ws log := by
  obtain ⟨ws, log, hs, -⟩ := h.ex
  exact ⟨ws, log, hs⟩
/-- A read is begun. -/
def VNewTo (base wr : World) (c : Cfg) (b mb : Nat) (x : Vw) (n : Nat) (s : RS) (e : Ending) (w' : World) : Prop :=
  ∃ r, e = .returned (.tuple #[.pointer (some ⟨r, 0, none⟩), .int .i64 0]) ∧ RV base w' Nil c b mb x n r s
theorem vs_new (h : VS base wr c b mb x n) (hok : c.ok) (hn : 0 < c.nT) (tr : Int) (r0 : 0 ≤ tr) (r1 : tr ≤ 255) :
    Calls Tryz.prog 33 #[.pointer (some ⟨b, 0, none⟩), .int .i64 1, .int .i64 1, .int .i64 tr] wr (VNewTo base wr c b mb x n (RS.init 1 1 tr)) := by
  obtain ⟨ws, log, ⟨⟨A, ⟨L, F, G, hsp⟩, hA⟩, hown⟩, hw, hvl, hlog⟩ := h.ex
  refine (rdnew_ok hsp hok 1 1 tr (by decide) (by decide) r0 r1 (by decide) (by omega)).mono ?_
  rintro e w' ⟨rfl, h4, h5⟩
  exact ⟨_, rfl, ⟨A, ws, log, (StoreL c b mb).keep ⟨L, F, G, hsp⟩ h5 (fun _ _ h => h), hA, fun e => by have := hsp.lt _ e; omega, fun k h => h.elim, hw, hvl, hlog⟩, h4, hown.size, hown.trans h5 (fun _ _ h => h)⟩
/-- Others do something. -/
theorem RV.other (h : RV base wr O c b mb x n r s) {S : Nat → Prop} (hk : Keep S wr w') (hS : ∀ k, S k → O k ∨ wr.heap.size ≤ k) (hO : ∀ k, O' k → O k ∨ (wr.heap.size ≤ k ∧ k < w'.heap.size)) (hb : ∀ k, S k → base.heap.size ≤ k) : RV base w' O' c b mb x n r s := by
  obtain ⟨A, ws, log, hl, hA, hr, hOA, hw, hvl, hlog⟩ := h.ex
  have hz := lt_of_block h.at_
  have hlt : ∀ k, A k → k < wr.heap.size := (StoreL c b mb).lt hl
  refine ⟨⟨A, ws, log, (StoreL c b mb).keep hl hk (fun k hk hs => (hS k hs).elim (fun e => (hOA k e).1 hk) (fun e => by have := hlt k hk; omega)), hA, hr, fun k hk' => ?_, hw, hvl, hlog⟩, h.at_.keep hk (fun e => (hS r e).elim (fun e => (hOA r e).2.1 rfl) (fun e => by omega)), h.ge, h.own.trans hk (fun k hlt e => by have := hb k e; omega)⟩
  rcases hO k hk' with e | e
  · exact ⟨(hOA k e).1, (hOA k e).2.1, by have := (hOA k e).2.2; have := hk.size; omega⟩
  · exact ⟨fun e2 => by have := hlt k e2; omega, by omega, e.2⟩
theorem RV.quiet (h : RV base wr O c b mb x n r s) (hk : Keep Nil wr w') : RV base w' O c b mb x n r s :=
  h.other hk (fun _ e => e.elim) (fun k e => .inl e) (fun _ e => e.elim)
def RVStepTo (base wr : World) (O : Nat → Prop) (c : Cfg) (b mb : Nat) (x : Vw) (n r : Nat) (pc : Int) (s' : RS) (e : Ending) (w' : World) : Prop :=
  e = .returned (.tuple #[.int .u8 pc, .bool s'.ended]) ∧ RV base w' O c b mb x n r s' ∧ Keep (fun k => ¬ O k) wr w'
theorem rv_step (h : RV base wr O c b mb x n r s) (hok : c.ok) (hn : 0 < c.nT) (tw : s.tower = 1) (th : s.th = 1) (hg : s.good c.lk) (hl : n < 1000000) :
    Calls Tryz.prog 34 #[.pointer (some ⟨r, 0, none⟩)] wr (RVStepTo base wr O c b mb x (n + 1) r s.next (s.step c.lk (x.word s))) := by
  obtain ⟨A, ws, log, ⟨L, F, G, hsp⟩, hA, hr, hOA, hw, hvl, hlog⟩ := h.ex
  have hR : RIn wr A c b mb L r F G ws log s 0 := ⟨hsp, hok, h.at_, hr, hn, by rw [tw]; rfl, by rw [th]; decide, by rw [th]; decide, hw.wf, Nat.le_of_eq hw.len.symm, by omega, hg⟩
  have hz := lt_of_block h.at_
  refine (rstep_ok hR).mono ?_
  rintro e w' ⟨rfl, log', hl', hto⟩
  obtain ⟨A', h1, h2, h3, h4⟩ := hto
  rw [show (RS.word (c.tow 0) c.descs ws s) = x.word s from hvl.word hg] at h2 ⊢
  have hA' : ∀ k, A' k → A k ∨ wr.heap.size ≤ k := h4
  refine ⟨rfl, ⟨⟨A', ws, log', h1, fun k e => (hA' k e).elim (hA k) (fun e => by have := h.own.size; omega), fun e => (hA' r e).elim hr (fun e => by omega), fun k hk => ⟨fun e => (hA' k e).elim (hOA k hk).1 (fun e => by have := (hOA k hk).2.2; omega), (hOA k hk).2.1, by have := (hOA k hk).2.2; have := h3.size; omega⟩, hw, hvl, by omega⟩, h2, h.ge, h.own.trans h3 (fun k hlt e => by rcases e with e | e; have := hA k e; omega; have := h.ge; omega)⟩, h3.mono fun k hlt e hO => ?_⟩
  rcases e with e | e
  · exact (hOA k hO).1 e
  · exact (hOA k hO).2.1 e
def RVPutTo (base wr : World) (O : Nat → Prop) (c : Cfg) (b mb : Nat) (x : Vw) (n r : Nat) (s : RS) (e : Ending) (w' : World) : Prop :=
  e = .returned (.int .i64 0) ∧ RV base w' O c b mb x n r s ∧ Keep (fun k => ¬ O k) wr w'
theorem rv_put (h : RV base wr O c b mb x n r s) (hn : 0 < c.nT) (st : WSt) (hst : st.rng c.lk) (a v : Int) (ha : a = st.addr (c.tow 0) c.descs) (hv : v = st.val) (hl : n < 1000000) :
    Calls Tryz.prog 25 #[.pointer (some ⟨mb, 0, none⟩), .int .i64 0, .int .i64 a, .int .u64 v] wr (RVPutTo base wr O c b mb (x.put st) (n + 1) r s) := by
  obtain ⟨A, ws, log, ⟨L, F, G, hsp⟩, hA, hr, hOA, hw, hvl, hlog⟩ := h.ex
  subst ha
  subst hv
  obtain ⟨y, hy, -, -⟩ := hw.at (WSt.lt hst.fit hn)
  have hz := lt_of_block h.at_
  refine (store_ok hsp.mem 0 _ y st.val (by decide) (by decide) (by omega) (by rw [Int.toNat_natCast]; exact hy) (by show log.length < _; omega)).mono ?_
  rintro e w' ⟨rfl, hto⟩
  obtain ⟨A', h1, h3, hA'⟩ := hsp.turn (Keep.refl Nil wr) hto
  rw [Int.toNat_natCast] at h1
  refine ⟨rfl, ⟨⟨A', _, _, h1, fun k e => (hA' k e).elim (hA k) (fun e => by have := h.own.size; omega), fun e => (hA' r e).elim hr (fun e => by omega), fun k hk => ⟨fun e => (hA' k e).elim (hOA k hk).1 (fun e => by have := (hOA k hk).2.2; omega), (hOA k hk).2.1, by have := (hOA k hk).2.2; have := h3.size; omega⟩, hw.set _ hst.v0 hst.v1, hvl.put st hst.fit, by simp; omega⟩, h.at_.keep h3 hr, h.ge, h.own.trans h3 (fun k hlt e => by have := hA k e; omega)⟩, h3.mono fun k hlt e hO => (hOA k hO).1 e⟩
theorem RV.sw (h : RV base wr O c b mb x n r s) : ∃ ws log, SW base wr c b mb ws log ∧ WdOk c ws ∧ VL c.lk (c.tow 0) c.descs ws x := by
  obtain ⟨A, ws, log, hl, hA, hr, hOA, hw, hvl, hlog⟩ := h.ex
  exact ⟨ws, log, ⟨⟨A, hl, hA⟩, h.own⟩, hw, hvl⟩
theorem rv_shown (h : RV base wr O c b mb x n r s) (hok : c.ok) (hn : 0 < c.nT) (v : Int) (p : Bool) (hv : x.shown c.lk = (v, p)) :
    Calls Tryz.prog 46 #[.pointer (some ⟨b, 0, none⟩), .int .i64 1] wr fun e w' => e = .returned (.tuple #[.int .u64 v, .bool p]) ∧ Keep Nil wr w' := by
  obtain ⟨ws, log, hs, hw, hvl⟩ := h.sw
  exact shown_ok hs hok hn (Nat.le_of_eq hw.len.symm) hw.wf 1 (by decide) v p (by rw [← hv]; exact hvl.shown)
theorem RV.word_rng (h : RV base wr O c b mb x n r s) (hn : 0 < c.nT) (hg : s.good c.lk) : 0 ≤ x.word s ∧ x.word s < 18446744073709551616 := by
  obtain ⟨ws, log, hs, hw, hvl⟩ := h.sw
  rw [← hvl.word hg]
  unfold RS.word
  cases hq : ws[s.at (c.tow 0) c.descs]? with
  | none => exact ⟨Int.le_refl 0, by show (0 : Int) < _; decide⟩
  | some y => exact hw.wf y (List.mem_of_getElem? hq)
end
end Go.Proofs.YtmafdjhjmnghcaaGreat
