/- base.New: a new store. -/
import Derived.Test.YtmafdjhjmnghcaaGreatStore
import Derived.Test.YtmafdjhjmnghcaaGreatLayNew
set_option linter.unusedVariables false
set_option linter.unusedSimpArgs false
namespace Go.Proofs.YtmafdjhjmnghcaaGreat
open Go.RowKit Go.Lf
attribute [local go_sem] fld0 fld1 fld2 fld3 fld4 fld5 fld6 fld7 fld8 fld9
theorem words_le (c : Cfg) (h : c.ok) : c.words ≤ 65536 := by
  obtain ⟨a1, a2, a3, a4, a5, a6, a7, a8, a9⟩ := plc_lt c
  have h1 := h.sl2
  have h2 := h.engW
  have h3 := h.lk2
  have h4 := h.nT
  have h5 := (Dom.cnt_pos h.d).2
  have h6 := h.tow
  omega
theorem init_len (c : Cfg) : (ints c.init).length = c.words := by
  rw [show (ints c.init).length = c.init.length by simp [ints]]
  exact fill_len _ _
/-- A new store is returned. -/
def BNewTo (w : World) (c : Cfg) (e : Ending) (w' : World) : Prop :=
  ∃ b mb A, e = .returned (.tuple #[.pointer (some ⟨b, 0, none⟩), .int .i64 0]) ∧ (StoreL c b mb).lie w' A (ints c.init, []) ∧ Keep Nil w w' ∧ ∀ k, A k → w.heap.size ≤ k
/-- The registers of a store in the making. -/
def EM (m7 m8 : Nat) (W : World) : Prop := W.heap[m7]? = some (.map #[] 0) ∧ W.heap[m8]? = some (.map #[] 0)
theorem EM.keep {m7 m8 : Nat} {W W' : World} {S : Nat → Prop} (h : EM m7 m8 W) (hk : Keep S W W') (n7 : ¬ S m7) (n8 : ¬ S m8) : EM m7 m8 W' := ⟨hk.at h.1 n7, hk.at h.2 n8⟩
/-- With its pool. -/
structure EQ (m7 m8 pb ob gb mb L : Nat) (c : Cfg) (W : World) : Prop where
  em : EM m7 m8 W
  pl : PoolAt0 W pb ob gb mb L c
theorem EQ.keep {m7 m8 pb ob gb mb L : Nat} {c : Cfg} {W W' : World} {S : Nat → Prop} (h : EQ m7 m8 pb ob gb mb L c W) (hk : Keep S W W') (hn : ∀ k, k = m7 ∨ k = m8 ∨ k = pb ∨ k = ob ∨ k = gb → ¬ S k) : EQ m7 m8 pb ob gb mb L c W' :=
  ⟨h.em.keep hk (hn _ (.inl rfl)) (hn _ (.inr (.inl rfl))), ⟨hk.at h.pl.head (hn _ (.inr (.inr (.inl rfl)))), hk.at h.pl.out (hn _ (.inr (.inr (.inr (.inl rfl))))), hk.at h.pl.gens (hn _ (.inr (.inr (.inr (.inr rfl)))))⟩⟩
theorem EQ.lt {m7 m8 pb ob gb mb L : Nat} {c : Cfg} {W : World} (h : EQ m7 m8 pb ob gb mb L c W) (k : Nat) (hk : k = m7 ∨ k = m8 ∨ k = pb ∨ k = ob ∨ k = gb) : k < W.heap.size := by
  rcases hk with rfl | rfl | rfl | rfl | rfl
  · exact lt_of_block h.em.1
  · exact lt_of_block h.em.2
  · exact lt_of_block h.pl.head
  · exact lt_of_block h.pl.out
  · exact lt_of_block h.pl.gens
theorem LayOn.mono {W : World} {L : Nat} {c : Cfg} {G G' : Nat → Prop} (h : LayOn W L c G) (hg : ∀ k, G k → G' k) : LayOn W L c G' :=
  ⟨h.at_, fun W' S hk hn => h.hold W' S hk (fun k e => hn k (hg k e))⟩
/-- A store in the making. -/
structure BN (w W : World) (c : Cfg) (cb b L : Nat) (CB : Array Value) (G : Nat → Prop) (x1 x2 x3 x4 m5 m6 m7 m8 : Value) : Prop where
  own : Keep Nil w W
  box : W.heap[cb]? = some (.cells CB 45 (0, 0))
  obj : W.heap[b]? = some (.cells #[.pointer (some ⟨L, 0, none⟩), x1, x2, x3, x4, m5, m6, m7, m8] 146 (0, 0))
  lay : LayOn W L c G
  hG : ∀ k, G k → w.heap.size ≤ k ∧ k < W.heap.size ∧ k ≠ b
  bn : w.heap.size ≤ b
section
variable {w W W' : World} {c : Cfg} {cb b L : Nat} {CB : Array Value} {G : Nat → Prop} {x1 x2 x3 x4 m5 m6 m7 m8 : Value}
theorem BN.quiet (h : BN w W c cb b L CB G x1 x2 x3 x4 m5 m6 m7 m8) (hk : Keep Nil W W') : BN w W' c cb b L CB G x1 x2 x3 x4 m5 m6 m7 m8 :=
  ⟨h.own.trans hk (fun _ _ h => h), hk.at h.box (fun h => h), hk.at h.obj (fun h => h), h.lay.keep hk (fun _ _ h => h), fun k hk' => by have := h.hG k hk'; have := hk.size; omega, h.bn⟩
theorem BN.set (h : BN w W c cb b L CB G x1 x2 x3 x4 m5 m6 m7 m8) {i : Nat} (v : Value) {y1 y2 y3 y4 : Value} (hv : (#[.pointer (some ⟨L, 0, none⟩), x1, x2, x3, x4, m5, m6, m7, m8] : Array Value).setIfInBounds i v = #[.pointer (some ⟨L, 0, none⟩), y1, y2, y3, y4, m5, m6, m7, m8]) :
    BN w (W.setCell ⟨b, i, none⟩ v) c cb b L CB G y1 y2 y3 y4 m5 m6 m7 m8 ∧ Keep (fun k => k = b) W (W.setCell ⟨b, i, none⟩ v) := by
  have hk : Keep (fun k => k = b) W (W.setCell ⟨b, i, none⟩ v) := Keep.setCell (Keep.refl (fun k => k = b) W) (.inl rfl) _
  have n1 := ty_ne h.box h.obj (by decide)
  have ho := set_same h.obj (i := i) v
  rw [hv] at ho
  exact ⟨⟨h.own.setCell (.inr h.bn) _, hk.at h.box n1, ho, h.lay.keep hk (fun k hG e => (h.hG k hG).2.2 e), fun k hk' => by have := h.hG k hk'; have := hk.size; omega, h.bn⟩, hk⟩
theorem BN.cell (h : BN w W c cb b L CB G x1 x2 x3 x4 m5 m6 m7 m8) : W.cell? ⟨b, 1, none⟩ = some x1 ∧ W.cell? ⟨b, 2, none⟩ = some x2 ∧ W.cell? ⟨b, 3, none⟩ = some x3 ∧ W.cell? ⟨b, 4, none⟩ = some x4 := by
  refine ⟨?_, ?_, ?_, ?_⟩ <;> (rw [cell_of h.obj]; rfl)
theorem BN.fr (h : BN w W c cb b L CB G x1 x2 x3 x4 m5 m6 m7 m8) (i : Nat) : W.frozen? ⟨b, i, none⟩ = false := free_of h.obj i
theorem BN.cb_ne (h : BN w W c cb b L CB G x1 x2 x3 x4 m5 m6 m7 m8) : cb ≠ b ∧ b ≠ cb := ⟨ty_ne h.box h.obj (by decide), (ty_ne h.box h.obj (by decide)).symm⟩
end
section
variable {w : World}
set_option maxRecDepth 100000 in
set_option maxHeartbeats 4000000 in
theorem bnew_ok (c : Cfg) (hok : c.ok) (t1 t2 t3 t4 t5 t6 : Nat) (htw : c.tw = [t1, t2, t3, t4, t5, t6]) (a : Option Addr) (cp : Nat) (hrd : Rd w 1 (.slice a c.d.cuts.length cp) c.d.cuts.length (u64s c.d.cuts)) : Calls Tryz.prog 18 #[cfgV c t1 t2 t3 t4 t5 t6 a cp] w (BNewTo w c) := by
  have HOK := hid hok
  have HRD := hid hrd
  have HTW := hid htw
  have hmm := @run_makeMap Tryz.prog
  have hz := hid (show 0 < c.words from by have := le_words c; omega)
  clear hok hrd htw
  unfold cfgV
  go_enter Tryz.func18, Tryz.ntmps18
  go_wp2_with fail
  refine (lnew_ok c HOK.out t1 t2 t3 t4 t5 t6 HTW.out a cp (rd_keep HRD.out ((Keep.refl Nil w).alloc _) (fun _ _ h => h))).mono ?_
  rintro e w1 ⟨L, G, rfl, hl, hk, hG⟩
  have hcb := hk.at (heap_alloc_new w _) (fun h => h)
  have HCB := hid hcb
  have HL := hid hl
  have HK := hid (((Keep.refl Nil w).alloc _).trans hk (fun _ _ h => h))
  have HG := hid (show ∀ k, G k → w.heap.size ≤ k ∧ k < w1.heap.size from fun k h => by have := hG k h; rw [World.size_alloc] at this; omega)
  have hcz : w.heap.size < w1.heap.size := lt_of_block hcb
  clear hcb hl hk hG
  go_wp2_with fail
  obtain ⟨V1, hV1⟩ : ∃ V : Value, V = .agg #[.int .i64 c.th, .int .i64 c.sl, .int .u8 c.eng, .int .i64 c.bk, .int .u8 c.d.k, .int .i64 c.d.n, .slice a c.d.cuts.length cp, .int .i64 t1, .int .i64 t2, .int .i64 t3, .int .i64 t4, .int .i64 t5, .int .i64 t6, .int .i64 c.lk, .int .i64 c.tr, .int .i64 c.ba] := ⟨_, rfl⟩
  rw [← hV1]
  clear hV1
  obtain ⟨W1, hW1⟩ : ∃ W1, W1 = ((w1.alloc (.map #[] 0)).alloc (.map #[] 0)).alloc (.cells #[.pointer (some ⟨L, 0, none⟩), .pointer none, .pointer none, .pointer none, .pointer none, .slice none 0 0, .slice none 0 0, .map (some w1.heap.size), .map (some (w1.heap.size + 1))] 146 (0, 0)) := ⟨_, rfl⟩
  rw [← hW1]
  have B1 : BN w W1 c w.heap.size (w1.heap.size + 1 + 1) L #[.int .i64 c.th, .int .i64 c.sl, .int .u8 c.eng, .int .i64 c.bk, .int .u8 c.d.k, .int .i64 c.d.n, .slice a c.d.cuts.length cp, .int .i64 t1, .int .i64 t2, .int .i64 t3, .int .i64 t4, .int .i64 t5, .int .i64 t6, .int .i64 c.lk, .int .i64 c.tr, .int .i64 c.ba] G (.pointer none) (.pointer none) (.pointer none) (.pointer none) (.slice none 0 0) (.slice none 0 0) (.map (some w1.heap.size)) (.map (some (w1.heap.size + 1))) := by
    have hk : Keep Nil w1 W1 := by rw [hW1]; exact (((Keep.refl Nil w1).alloc _).alloc _).alloc _
    have ho := heap_alloc_new ((w1.alloc (.map #[] 0)).alloc (.map #[] 0)) (.cells #[.pointer (some ⟨L, 0, none⟩), .pointer none, .pointer none, .pointer none, .pointer none, .slice none 0 0, .slice none 0 0, .map (some w1.heap.size), .map (some (w1.heap.size + 1))] 146 (0, 0))
    rw [World.size_alloc, World.size_alloc, ← hW1] at ho
    have := HK.out.size
    exact ⟨HK.out.trans hk (fun _ _ h => h), hk.at HCB.out (fun h => h), ho, HL.out.keep hk (fun _ _ h => h), fun k h => by have := HG.out k h; have := hk.size; omega, by omega⟩
  have HB1 := hid B1
  have HE1 := hid (show EM w1.heap.size (w1.heap.size + 1) W1 from by
    have h2 := heap_alloc_new (w1.alloc (.map #[] 0)) (.map #[] 0)
    rw [World.size_alloc] at h2
    rw [hW1]
    exact ⟨alloc_old (alloc_old (heap_alloc_new w1 _) _) _, alloc_old h2 _⟩)
  have HMZ := hid (show w.heap.size ≤ w1.heap.size from HK.out.size)
  clear hW1 B1 HCB HL HK HG hmm
  refine (initial_ok HB1.out.lay.at_ HOK.out (by have := words_le c HOK.out; omega)).mono ?_
  rintro e w2 ⟨rfl, hrow, hk2⟩
  have HB2 := hid (HB1.out.quiet hk2)
  have hr2 : Rd w2 1 (.slice (some ⟨W1.heap.size, 0, none⟩) c.words c.words) (ints c.init).length (u64s (ints c.init)) := by
    rw [init_len]
    exact rd_of_heap hrow (by rw [show (u64s (ints c.init)).length = (ints c.init).length by simp [u64s], init_len, Nat.mul_one])
  have HR2 := hid hr2
  have HE2 := hid (HE1.out.keep hk2 (fun h => h) (fun h => h))
  clear hrow hk2 hr2 HE1
  go_wp2_with fail
  refine (new_ok _ (ints c.init) _ HR2.out (by rw [init_len]; exact hz.out) (by rw [init_len]; exact words_le c HOK.out)).mono ?_
  rintro e w3 ⟨mb, F, rfl, hm, hk3, hf⟩
  have B3 := HB2.out.quiet hk3
  have HF := hid (show ∀ k, F k → (w1.heap.size + 1 + 1) < k ∧ w2.heap.size ≤ k from fun k h => by
    have h1 := (hf k h).resolve_left (fun h => h)
    have h2 := lt_of_block HB2.out.obj
    omega)
  have HM := hid hm
  obtain ⟨p1, p2, p3, p4⟩ := B3.cell
  have f3 := B3.fr 1
  obtain ⟨B4, k4⟩ := B3.set (i := 1) (.pointer (some ⟨mb, 0, none⟩)) (y1 := .pointer (some ⟨mb, 0, none⟩)) (y2 := .pointer none) (y3 := .pointer none) (y4 := .pointer none) rfl
  have HM4 := hid (hm.keep k4 (fun k hF e => by have := HF.out k hF; omega))
  have HB4 := hid B4
  have hbz : (w1.heap.size + 1 + 1) < w3.heap.size := lt_of_block B3.obj
  obtain ⟨r1, r2, r3, r4⟩ := B4.cell
  have HGF := hid (show ∀ k, G k → ¬ F k from fun k hG hF => by have := HF.out k hF; have := (HB2.out.hG k hG).2.1; omega)
  have HE4 := hid ((HE2.out.keep hk3 (fun h => h) (fun h => h)).keep k4 (fun e => by have e2 : w1.heap.size = w1.heap.size + 1 + 1 := e; omega) (fun e => by have e2 : w1.heap.size + 1 = w1.heap.size + 1 + 1 := e; omega))
  have HFZ := hid (show ∀ k, F k → k < (w3.setCell ⟨(w1.heap.size + 1 + 1), 1, none⟩ (.pointer (some ⟨mb, 0, none⟩))).heap.size from fun k h => HM4.out.lt k h)
  clear hm hk3 hf B3 B4 k4 HB1 HB2 HM HR2 HE2
  go_wp2_with fail
  generalize w3.setCell ⟨(w1.heap.size + 1 + 1), 1, none⟩ (.pointer (some ⟨mb, 0, none⟩)) = W4 at *
  refine (poolnew_ok HB4.out.lay.at_ HM4.out (init_len c) HOK.out (words_le c HOK.out)).mono ?_
  rintro e w5 ⟨pb, ob, gb, rfl, hpl, hk5, hpz⟩
  have HPZ := hid (show (W4.heap.size ≤ pb ∧ W4.heap.size ≤ ob ∧ W4.heap.size ≤ gb) ∧ w1.heap.size + 1 + 1 < W4.heap.size from ⟨⟨hpz.1, hpz.2.1, hpz.2.2.1⟩, lt_of_block HB4.out.obj⟩)
  have HE5 := hid (EQ.mk (HE4.out.keep hk5 (fun h => h) (fun h => h)) hpl)
  have HNE := hid (show ∀ k, k = w1.heap.size ∨ k = w1.heap.size + 1 ∨ k = pb ∨ k = ob ∨ k = gb → ¬ (k = w1.heap.size + 1 + 1) from fun k h => by have := HPZ.out; omega)
  clear hpl hpz HE4
  have B5 := HB4.out.quiet hk5
  have HM5 := hid (HM4.out.keep hk5 (fun _ _ h => h))
  clear p1 p2 p3 p4 f3 r1 r2 r3 r4 hbz hk5 HB4 HM4
  obtain ⟨p1, p2, p3, p4⟩ := B5.cell
  have f3 := B5.fr 2
  have hbz : (w1.heap.size + 1 + 1) < w5.heap.size := lt_of_block B5.obj
  obtain ⟨B6, k6⟩ := B5.set (i := 2) (.pointer (some ⟨pb, 0, none⟩)) (y1 := .pointer (some ⟨mb, 0, none⟩)) (y2 := .pointer (some ⟨pb, 0, none⟩)) (y3 := .pointer none) (y4 := .pointer none) rfl
  have HM6 := hid (HM5.out.keep k6 (fun k hF e => by have := HF.out k hF; omega))
  have HB6 := hid B6
  obtain ⟨r1, r2, r3, r4⟩ := B6.cell
  have HE6 := hid (HE5.out.keep k6 HNE.out)
  clear B5 B6 k6 HM5 HE5
  go_wp2_with fail
  generalize w5.setCell ⟨(w1.heap.size + 1 + 1), 2, none⟩ (.pointer (some ⟨pb, 0, none⟩)) = W6 at *
  refine (towernew_ok HB6.out.lay.at_ HM6.out (init_len c) (words_le c HOK.out)).mono ?_
  rintro e w7 ⟨tb, rfl, hk7⟩
  have B7 := HB6.out.quiet hk7
  have HM7 := hid (HM6.out.keep hk7 (fun _ _ h => h))
  have HE7 := hid (HE6.out.keep hk7 (fun _ _ h => h))
  clear p1 p2 p3 p4 f3 r1 r2 r3 r4 hbz hk7 HB6 HM6
  obtain ⟨p1, p2, p3, p4⟩ := B7.cell
  have f3 := B7.fr 3
  have hbz : (w1.heap.size + 1 + 1) < w7.heap.size := lt_of_block B7.obj
  obtain ⟨B8, k8⟩ := B7.set (i := 3) (.pointer (some ⟨tb, 0, none⟩)) (y1 := .pointer (some ⟨mb, 0, none⟩)) (y2 := .pointer (some ⟨pb, 0, none⟩)) (y3 := .pointer (some ⟨tb, 0, none⟩)) (y4 := .pointer none) rfl
  have HM8 := hid (HM7.out.keep k8 (fun k hF e => by have := HF.out k hF; omega))
  have HB8 := hid B8
  have HE8 := hid (HE7.out.keep k8 HNE.out)
  clear B7 B8 k8 HM7 HE6 HE7
  go_wp2_with fail
  generalize w7.setCell ⟨(w1.heap.size + 1 + 1), 3, none⟩ (.pointer (some ⟨tb, 0, none⟩)) = W8 at *
  clear p1 p2 p3 p4 f3 hbz
  obtain ⟨r1, r2, r3, r4⟩ := HB8.out.cell
  obtain ⟨n1, n2⟩ := HB8.out.cb_ne
  have d1 : W8.cell? ⟨w.heap.size, 1, none⟩ = some (.int .i64 (c.sl : Int)) := by rw [cell_of HB8.out.box]; rfl
  have d2 : W8.cell? ⟨w.heap.size, 2, none⟩ = some (.int .u8 c.eng) := by rw [cell_of HB8.out.box]; rfl
  have d3 : W8.cell? ⟨w.heap.size, 3, none⟩ = some (.int .i64 (c.bk : Int)) := by rw [cell_of HB8.out.box]; rfl
  have KD := hid ((Keep.refl Nil W8).drew)
  clear r2 r3
  go_region_held3 (fun w' => w'.cell? ⟨(w1.heap.size + 1 + 1), 1, none⟩ = some (.pointer (some ⟨mb, 0, none⟩)) ∧ w'.cell? ⟨w.heap.size, 1, none⟩ = some (.int .i64 (c.sl : Int)) ∧ w'.cell? ⟨w.heap.size, 2, none⟩ = some (.int .u8 c.eng) ∧ w'.cell? ⟨w.heap.size, 3, none⟩ = some (.int .i64 (c.bk : Int))) (first | (exact s9; done) | go_keep)
    (first
      | (go_at_call 23; (with_reducible refine (places_ok (HB8.out.quiet KD.out).lay.at_).mono ?_); rintro e w9 ⟨rfl, hk9⟩; have K9 := hid (KD.out.trans hk9 (fun _ _ h => h)); have B9 := HB8.out.quiet K9.out; obtain ⟨e1, -, -, -⟩ := B9.cell; have g1 : w9.cell? ⟨w.heap.size, 1, none⟩ = some (.int .i64 (c.sl : Int)) := (by rw [cell_of B9.box]; rfl); have g2 : w9.cell? ⟨w.heap.size, 2, none⟩ = some (.int .u8 c.eng) := (by rw [cell_of B9.box]; rfl); have g3 : w9.cell? ⟨w.heap.size, 3, none⟩ = some (.int .i64 (c.bk : Int)) := (by rw [cell_of B9.box]; rfl); clear hk9 B9)
      | (go_at_call 78; (with_reducible refine (pnew_ok (HM8.out.keep K9.out (fun _ _ h => h)) HOK.out (init_len c) (words_le c HOK.out)).mono ?_); rintro e w10 ⟨prb, rfl, hk10⟩; have K10 := hid (K9.out.trans hk10 (fun _ _ h => h)); have B10 := HB8.out.quiet K10.out; obtain ⟨i1, -, -, i4⟩ := B10.cell; have j1 : w10.cell? ⟨w.heap.size, 1, none⟩ = some (.int .i64 (c.sl : Int)) := (by rw [cell_of B10.box]; rfl); have j2 : w10.cell? ⟨w.heap.size, 2, none⟩ = some (.int .u8 c.eng) := (by rw [cell_of B10.box]; rfl); have j3 : w10.cell? ⟨w.heap.size, 3, none⟩ = some (.int .i64 (c.bk : Int)) := (by rw [cell_of B10.box]; rfl); have fz := B10.fr 4; obtain ⟨B11, k11⟩ := B10.set (i := 4) (.pointer (some ⟨prb, 0, none⟩)) (y1 := .pointer (some ⟨mb, 0, none⟩)) (y2 := .pointer (some ⟨pb, 0, none⟩)) (y3 := .pointer (some ⟨tb, 0, none⟩)) (y4 := .pointer (some ⟨prb, 0, none⟩)) rfl; have s9 := And.intro B11.cell.1 (And.intro (show (w10.setCell ⟨(w1.heap.size + 1 + 1), 4, none⟩ (.pointer (some ⟨prb, 0, none⟩))).cell? ⟨w.heap.size, 1, none⟩ = some (.int .i64 (c.sl : Int)) from (by rw [cell_of B11.box]; rfl)) (And.intro (show (w10.setCell ⟨(w1.heap.size + 1 + 1), 4, none⟩ (.pointer (some ⟨prb, 0, none⟩))).cell? ⟨w.heap.size, 2, none⟩ = some (.int .u8 c.eng) from (by rw [cell_of B11.box]; rfl)) (show (w10.setCell ⟨(w1.heap.size + 1 + 1), 4, none⟩ (.pointer (some ⟨prb, 0, none⟩))).cell? ⟨w.heap.size, 3, none⟩ = some (.int .i64 (c.bk : Int)) from (by rw [cell_of B11.box]; rfl)))); have HB11 := hid B11; have HK11 := hid k11; clear hk10 B10 B11 k11))
  have HE11 := hid ((HE8.out.keep K10.out (fun _ _ h => h)).keep HK11.out HNE.out)
  have HM11 := hid ((HM8.out.keep K10.out (fun _ _ h => h)).keep HK11.out (fun k hF e => by have := HF.out k hF; omega))
  generalize w10.setCell ⟨(w1.heap.size + 1 + 1), 4, none⟩ (.pointer (some ⟨prb, 0, none⟩)) = W11 at *
  go_wp2
  go_ret2
  have hgz : ∀ k, k = w1.heap.size ∨ k = w1.heap.size + 1 ∨ k = pb ∨ k = ob ∨ k = gb → ¬ F k ∧ k < W11.heap.size ∧ w.heap.size ≤ k := fun k e => ⟨fun hF => by have h1 := HF.out k hF; have h2 := HFZ.out k hF; have h3 := HPZ.out; omega, HE11.out.lt k e, by have h3 := HPZ.out; have h4 := HMZ.out; omega⟩
  have HG' := hid hgz
  have hext : KeepOn W11 (fun k => k = (w1.heap.size + 1 + 1) ∨ (G k ∨ (k = w1.heap.size ∨ k = w1.heap.size + 1 ∨ k = pb ∨ k = ob ∨ k = gb))) (ExtP (w1.heap.size + 1 + 1) mb L c) :=
    ⟨⟨pb, _, _, ob, gb, _, _, HB11.out.obj, HE11.out.pl, HE11.out.em.1, HE11.out.em.2⟩, fun W' S hk hn => ⟨pb, _, _, ob, gb, _, _, hk.at HB11.out.obj (hn _ (.inl rfl)), (HE11.out.keep hk (fun k e => hn k (.inr (.inr e)))).pl, (HE11.out.keep hk (fun k e => hn k (.inr (.inr e)))).em.1, (HE11.out.keep hk (fun k e => hn k (.inr (.inr e)))).em.2⟩⟩
  refine ⟨(w1.heap.size + 1 + 1), mb, fun k => k = (w1.heap.size + 1 + 1) ∨ F k ∨ (G k ∨ (k = w1.heap.size ∨ k = w1.heap.size + 1 ∨ k = pb ∨ k = ob ∨ k = gb)), rfl, ⟨L, F, (fun k => G k ∨ (k = w1.heap.size ∨ k = w1.heap.size + 1 ∨ k = pb ∨ k = ob ∨ k = gb)), ⟨_, _, _, _, _, _, _, HB11.out.obj⟩, HM11.out, HB11.out.lay.mono (fun k h => .inl h), fun _ => Iff.rfl, fun h => ?_, fun h => h.elim (fun h => (HB11.out.hG (w1.heap.size + 1 + 1) h).2.2 rfl) (fun h => HNE.out _ h rfl), fun k h => h.elim (fun h => ⟨HGF.out k h, (HB11.out.hG k h).2.1⟩) (fun h => ⟨(HG'.out k h).1, (HG'.out k h).2.1⟩), hext⟩, HB11.out.own, fun k hk => ?_⟩
  · have := HF.out (w1.heap.size + 1 + 1) h; omega
  · rcases hk with rfl | h | h | h
    · exact HB11.out.bn
    · have := HF.out k h; have := HB11.out.bn; omega
    · exact (HB11.out.hG k h).1
    · exact (HG'.out k h).2.2
end
end Go.Proofs.YtmafdjhjmnghcaaGreat
