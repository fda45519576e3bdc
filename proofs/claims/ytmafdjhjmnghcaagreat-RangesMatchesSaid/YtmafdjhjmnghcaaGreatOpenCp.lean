/- leapfrogkit: CopyUints, CopyDomain, CopyConfig. -/
import Derived.Test.YtmafdjhjmnghcaaGreatStore
import Derived.Test.YtmafdjhjmnghcaaGreatRefLayO
import Derived.Test.YtmafdjhjmnghcaaGreatStoreNew
import Derived.Deep.RegionHeld3
import Derived.Deep.DeepCutAuto
import Derived.Test.YtmafdjhjmnghcaaGreatStoreEx
import Derived.Test.YtmafdjhjmnghcaaGreatStoreSw
set_option linter.unusedVariables false
set_option linter.unusedSimpArgs false
namespace Go.Proofs.YtmafdjhjmnghcaaGreat
open Go.RowKit Go.Lf
section
variable {w : World}
/-- A slice of words is copied. -/
def CpuTo (w : World) (l : List Int) (e : Ending) (w' : World) : Prop := ∃ a cp, e = .returned (.slice a l.length cp) ∧ Rd w' 1 (.slice a l.length cp) l.length (u64s l) ∧ Keep Nil w w' ∧ ∀ k, (Value.slice a l.length cp).ownBlock = some k → w.heap.size ≤ k
theorem infoU64C : (Tryz.prog.info? 26).map (fun i => (i.zero, i.size, i.bytes)) = some (some (.int .u64 0), 1, 8) := by kernel_rfl
set_option maxHeartbeats 2000000 in
theorem cpu_ok (l : List Int) (a : Option Addr) (cp : Nat) (hrd : Rd w 1 (.slice a l.length cp) l.length (u64s l)) (hm : l.length ≤ 1000000) : Calls Tryz.prog 188 #[.slice a l.length cp] w (CpuTo w l) := by
  have HRD := hid hrd
  clear hrd
  go_enter Tryz.func188, Tryz.ntmps188
  go_wp2_with (at_builtin; refine wpList_app _ rfl _ _ 40 rfl 26 _ 1 8 Tryz.underlying40 infoU64C rfl (by decide) (.slice none 0 0) 0 [] rfl ?own (.slice a l.length cp) l.length (u64s l) rfl ?rd ?one ?byt ?len ?_)
  case own => exact World.ownsRow_nil _ _ _ _
  case rd => exact HRD.out
  case one => exact u64s_one _
  case byt => omega
  case len => unfold maxLen; omega
  intro a2 c2 w1 ho hg hs
  have HO := hid ho
  have HG := hid hg
  have HS := hid hs
  clear ho hg hs
  go_wp2
  go_ret
  refine ⟨a2, c2, rfl, by simpa using row_rd HO.out, Keep.grown (Keep.refl Nil w) HG.out (fun k e => by cases e), fun k e => (HS.out k (by simpa using e)).elim (fun e => by cases e) id⟩
/-- A domain is copied. -/
def CpdTo (w : World) (d : Dom) (e : Ending) (w' : World) : Prop := ∃ a cp, e = .returned (.agg #[.int .u8 d.k, .int .i64 d.n, .slice a d.cuts.length cp]) ∧ Rd w' 1 (.slice a d.cuts.length cp) d.cuts.length (u64s d.cuts) ∧ Keep Nil w w' ∧ ∀ k, (Value.slice a d.cuts.length cp).ownBlock = some k → w.heap.size ≤ k
theorem set3c {W : World} {b : Nat} {t : TypeId} {z0 z1 z2 : Value} (x0 x1 x2 : Value) (h : W.heap[b]? = some (.cells #[z0, z1, z2] t (0, 0))) : (((W.setCell ⟨b, 0, none⟩ x0).setCell ⟨b, 1, none⟩ x1).setCell ⟨b, 2, none⟩ x2).heap[b]? = some (.cells #[x0, x1, x2] t (0, 0)) := by
  have h0 : (W.setCell ⟨b, 0, none⟩ x0).heap[b]? = some (.cells #[x0, z1, z2] t (0, 0)) := set_same h _
  have h1 : ((W.setCell ⟨b, 0, none⟩ x0).setCell ⟨b, 1, none⟩ x1).heap[b]? = some (.cells #[x0, x1, z2] t (0, 0)) := set_same h0 _
  have h2 : (((W.setCell ⟨b, 0, none⟩ x0).setCell ⟨b, 1, none⟩ x1).setCell ⟨b, 2, none⟩ x2).heap[b]? = some (.cells #[x0, x1, x2] t (0, 0)) := set_same h1 _
  exact h2
theorem infoDomC : (Tryz.prog.info? 42).map (·.size) = some 3 := by kernel_rfl
set_option maxRecDepth 100000 in
set_option maxHeartbeats 4000000 in
theorem cpd_ok (d : Dom) (a : Option Addr) (cp : Nat) (hrd : Rd w 1 (.slice a d.cuts.length cp) d.cuts.length (u64s d.cuts)) (hm : d.cuts.length ≤ 1000000) : Calls Tryz.prog 156 #[.agg #[.int .u8 d.k, .int .i64 d.n, .slice a d.cuts.length cp]] w (CpdTo w d) := by
  have HRD := hid hrd
  have HM := hid hm
  clear hrd hm
  go_enter Tryz.func156, Tryz.ntmps156
  go_wp2_with fail
  refine (cpu_ok d.cuts a cp (rd_keep HRD.out (((Keep.refl Nil w).alloc _).alloc _) (fun _ _ h => h)) HM.out).mono ?_
  rintro e w2 ⟨a2, cp2, rfl, hrd2, hk2, hnw⟩
  have HNW := hid (show ∀ k, (Value.slice a2 d.cuts.length cp2).ownBlock = some k → w.heap.size + 2 ≤ k from fun k e => by have := hnw k e; rw [World.size_alloc, World.size_alloc] at this; omega)
  have hb1 := hk2.at (alloc_old (heap_alloc_new w _) _) (fun h => h)
  have hb2 := hk2.at (heap_alloc_new (w.alloc _) _) (fun h => h)
  rw [World.size_alloc] at hb2
  have hz1 : w.heap.size < w2.heap.size := lt_of_block hb1
  have hz2 : w.heap.size + 1 < w2.heap.size := lt_of_block hb2
  have b0 : w2.cell? ⟨w.heap.size, 0, none⟩ = some (.int .u8 d.k) := by rw [cell_of hb1]; rfl
  have b1 : w2.cell? ⟨w.heap.size, 1, none⟩ = some (.int .i64 d.n) := by rw [cell_of hb1]; rfl
  have b2 : w2.cell? ⟨w.heap.size, 2, none⟩ = some (.slice a d.cuts.length cp) := by rw [cell_of hb1]; rfl
  have e0 := cell_of hb2 0
  have e1 := cell_of hb2 1
  have e2 := cell_of hb2 2
  have f1 : ∀ i, w2.frozen? ⟨w.heap.size, i, none⟩ = false := fun i => free_of hb1 i
  have f2 : ∀ i, w2.frozen? ⟨w.heap.size + 1, i, none⟩ = false := fun i => free_of hb2 i
  have HK2 := hid (show Keep Nil w w2 from (((Keep.refl Nil w).alloc _).alloc _).trans hk2 (fun _ _ h => h))
  have HR2 := hid hrd2
  have HB2 := hid hb2
  have hne : w.heap.size ≠ w.heap.size + 1 := by omega
  have hne2 : w.heap.size + 1 ≠ w.heap.size := by omega
  clear hk2 hb1 hb2 hrd2 hnw
  go_wp2
  have h0 : (w2.setCell ⟨w.heap.size, 2, none⟩ (.slice a2 d.cuts.length cp2)).heap[w.heap.size + 1]? = _ := set_other HB2.out hne2 (.slice a2 d.cuts.length cp2)
  refine bodyPost_ret (results_cell_row rfl _ _ (w.heap.size + 1) _ _ (0, 0) _ rfl (set3c _ _ _ h0) Tryz.underlying42 rfl infoDomC) rfl ⟨a2, cp2, rfl, ?_, ?_, fun k e => by have := HNW.out k e; omega⟩
  · refine rd_keep HR2.out (S := fun k => k = w.heap.size ∨ k = w.heap.size + 1) (((((Keep.refl _ w2).setCell (.inl (.inl rfl)) _).setCell (.inl (.inr rfl)) _).setCell (.inl (.inr rfl)) _).setCell (.inl (.inr rfl)) _) (fun k e h => by have h1 := HNW.out k e; have h2 : k = w.heap.size ∨ k = w.heap.size + 1 := h; omega)
  · exact ((((HK2.out.setCell (.inr (Nat.le_refl _)) _).setCell (.inr (Nat.le_succ _)) _).setCell (.inr (Nat.le_succ _)) _).setCell (.inr (Nat.le_succ _)) _)
/-- The copied configuration. -/
def CfgCpTo (w : World) (c : Cfg) (t1 t2 t3 t4 t5 t6 : Nat) (e : Ending) (w' : World) : Prop :=
  ∃ a cp, e = .returned (cfgV c t1 t2 t3 t4 t5 t6 a cp) ∧ Rd w' 1 (.slice a c.d.cuts.length cp) c.d.cuts.length (u64s c.d.cuts) ∧ Keep Nil w w'
set_option maxRecDepth 100000 in
set_option maxHeartbeats 4000000 in
theorem cpc_ok (c : Cfg) (hok : c.ok) (t1 t2 t3 t4 t5 t6 : Nat) (a : Option Addr) (cp : Nat) (hrd : Rd w 1 (.slice a c.d.cuts.length cp) c.d.cuts.length (u64s c.d.cuts)) : Calls Tryz.prog 93 #[cfgV c t1 t2 t3 t4 t5 t6 a cp] w (CfgCpTo w c t1 t2 t3 t4 t5 t6) := by
  have HRD := hid hrd
  have HM := hid (show c.d.cuts.length ≤ 1000000 by
    rcases hok.d with ⟨_, _, h⟩ | ⟨_, _, h⟩ | ⟨_, _, h, _⟩
    · rw [h]; decide
    · rw [h]; decide
    · omega)
  clear hrd hok
  unfold cfgV
  go_enter Tryz.func93, Tryz.ntmps93
  go_wp2_with fail
  refine (cpd_ok c.d a cp (rd_keep HRD.out (((Keep.refl Nil w).alloc _).alloc _) (fun _ _ h => h)) HM.out).mono ?_
  rintro e w2 ⟨a2, cp2, rfl, hrd2, hk2, hnw⟩
  have HNW := hid (show ∀ k, (Value.slice a2 c.d.cuts.length cp2).ownBlock = some k → w.heap.size + 2 ≤ k from fun k e => by have := hnw k e; rw [World.size_alloc, World.size_alloc] at this; omega)
  have hb1 := hk2.at (alloc_old (heap_alloc_new w _) _) (fun h => h)
  have hb2 := hk2.at (heap_alloc_new (w.alloc _) _) (fun h => h)
  rw [World.size_alloc] at hb2
  have hz1 : w.heap.size < w2.heap.size := lt_of_block hb1
  have hz2 : w.heap.size + 1 < w2.heap.size := lt_of_block hb2
  obtain ⟨b0, b1, b2, b3, b4, b5, b6, b7, b8, b9, b10, b11, b12, b13, b14, b15⟩ := bx16 hb1
  obtain ⟨z0, z1, z2, z3, z4, z5, z6, z7, z8, z9, z10, z11, z12, z13, z14, z15⟩ := bx16 hb2
  have f1 : ∀ i, w2.frozen? ⟨w.heap.size, i, none⟩ = false := fun i => free_of hb1 i
  have f2 : ∀ i, w2.frozen? ⟨w.heap.size + 1, i, none⟩ = false := fun i => free_of hb2 i
  have HK2 := hid (show Keep Nil w w2 from (((Keep.refl Nil w).alloc _).alloc _).trans hk2 (fun _ _ h => h))
  have HR2 := hid hrd2
  have HB2 := hid hb2
  have hne : w.heap.size ≠ w.heap.size + 1 := by omega
  have hne2 : w.heap.size + 1 ≠ w.heap.size := by omega
  clear hk2 hb1 hb2 hrd2 hnw
  go_wp2
  have h0 : (((w2.setCell ⟨w.heap.size, 4, none⟩ (.int .u8 c.d.k)).setCell ⟨w.heap.size, 5, none⟩ (.int .i64 c.d.n)).setCell ⟨w.heap.size, 6, none⟩ (.slice a2 c.d.cuts.length cp2)).heap[w.heap.size + 1]? = _ := set_other (set_other (set_other HB2.out hne2 _) hne2 _) hne2 _
  refine bodyPost_ret (results_cell_row rfl _ _ (w.heap.size + 1) _ _ (0, 0) _ rfl (set16 _ _ _ _ _ _ _ _ _ _ _ _ _ _ _ _ h0) Tryz.underlying45 rfl infoCfg) rfl ⟨a2, cp2, rfl, ?_, ?_⟩
  · refine rd_keep HR2.out (S := fun k => k = w.heap.size ∨ k = w.heap.size + 1) (keep16 _ _ _ _ _ _ _ _ _ _ _ _ _ _ _ _ ((((Keep.refl _ w2).setCell (.inl (.inl rfl)) _).setCell (.inl (.inl rfl)) _).setCell (.inl (.inl rfl)) _) (.inl (.inr rfl))) (fun k e h => by have h1 := HNW.out k e; have h2 : k = w.heap.size ∨ k = w.heap.size + 1 := h; omega)
  · exact keep16 _ _ _ _ _ _ _ _ _ _ _ _ _ _ _ _ (((HK2.out.setCell (.inr (Nat.le_refl _)) _).setCell (.inr (Nat.le_refl _)) _).setCell (.inr (Nat.le_refl _)) _) (.inr (Nat.le_succ _))
end
end Go.Proofs.YtmafdjhjmnghcaaGreat

/-! leapfrogref23: New. -/
set_option linter.unusedVariables false
set_option linter.unusedSimpArgs false
namespace Go.Proofs.YtmafdjhjmnghcaaGreat
open Go.RowKit Go.Lf
/-- A new store of the reference is returned. -/
def RBNewTo (w : World) (c : Cfg) (e : Ending) (w' : World) : Prop :=
  ∃ b mb A, e = .returned (.tuple #[.pointer (some ⟨b, 0, none⟩), .int .i64 0]) ∧ (RStoreL c b mb).lie w' A (ints c.init, []) ∧ Keep Nil w w' ∧ ∀ k, A k → w.heap.size ≤ k
def rbnCells (l : Nat) (c : Cfg) (y1 y2 y3 y4 : Value) (vb kb ub : Nat) : Array Value := #[.pointer (some ⟨l, 0, none⟩), y1, y2, y3, y4, .int .i64 0, .bool false, .slice none 0 0, .slice none 0 0, .slice (some ⟨vb, 0, none⟩) c.sl c.sl, .slice (some ⟨kb, 0, none⟩) (c.nT + 1) (c.nT + 1), .slice (some ⟨ub, 0, none⟩) (c.nT + 1) (c.nT + 1)]
def zrow (c : Cfg) : Array Value := (List.replicate (c.nT + 1) (Value.int .i64 0)).toArray
/-- A store of the reference in the making. -/
structure RBN (w W : World) (c : Cfg) (cb b l : Nat) (CB : Array Value) (G : Nat → Prop) (y1 y2 y3 y4 : Value) (vb kb ub : Nat) : Prop where
  own : Keep Nil w W
  box : W.heap[cb]? = some (.cells CB 45 (0, 0))
  obj : W.heap[b]? = some (.cells (rbnCells l c y1 y2 y3 y4 vb kb ub) 122 (0, 0))
  k1 : W.heap[kb]? = some (.cells (zrow c) 3 (0, 0))
  u1 : W.heap[ub]? = some (.cells (zrow c) 3 (0, 0))
  lay : RLAt W l c G
  hG : ∀ k, G k → w.heap.size ≤ k ∧ k < W.heap.size ∧ k ≠ b
  bn : w.heap.size ≤ b ∧ w.heap.size ≤ kb ∧ w.heap.size ≤ ub
section
variable {w W W' : World} {c : Cfg} {cb b l vb kb ub : Nat} {CB : Array Value} {G : Nat → Prop} {y1 y2 y3 y4 : Value}
theorem RBN.quiet (h : RBN w W c cb b l CB G y1 y2 y3 y4 vb kb ub) (hk : Keep Nil W W') : RBN w W' c cb b l CB G y1 y2 y3 y4 vb kb ub :=
  ⟨h.own.trans hk (fun _ _ h => h), hk.at h.box (fun h => h), hk.at h.obj (fun h => h), hk.at h.k1 (fun h => h), hk.at h.u1 (fun h => h), h.lay.quiet hk, fun k hk' => by have := h.hG k hk'; have := hk.size; omega, h.bn⟩
theorem RBN.ne (h : RBN w W c cb b l CB G y1 y2 y3 y4 vb kb ub) : cb ≠ b ∧ b ≠ cb ∧ kb ≠ b ∧ ub ≠ b ∧ l ≠ b ∧ b ≠ l :=
  have n1 := ty_ne h.box h.obj (by decide)
  have n2 := ty_ne h.k1 h.obj (by decide)
  have n3 := ty_ne h.u1 h.obj (by decide)
  have n4 := (h.hG l h.lay.has).2.2
  ⟨n1, n1.symm, n2, n3, n4, fun e => n4 e.symm⟩
theorem RBN.set (h : RBN w W c cb b l CB G y1 y2 y3 y4 vb kb ub) {i : Nat} (v : Value) {x1 x2 x3 x4 : Value} (hv : (rbnCells l c y1 y2 y3 y4 vb kb ub).setIfInBounds i v = rbnCells l c x1 x2 x3 x4 vb kb ub) :
    RBN w (W.setCell ⟨b, i, none⟩ v) c cb b l CB G x1 x2 x3 x4 vb kb ub ∧ Keep (fun k => k = b) W (W.setCell ⟨b, i, none⟩ v) := by
  have hk : Keep (fun k => k = b) W (W.setCell ⟨b, i, none⟩ v) := Keep.setCell (Keep.refl (fun k => k = b) W) (.inl rfl) _
  obtain ⟨n1, -, n2, n3, n4, -⟩ := h.ne
  have ho := set_same h.obj (i := i) v
  rw [hv] at ho
  exact ⟨⟨h.own.setCell (.inr h.bn.1) _, hk.at h.box n1, ho, hk.at h.k1 n2, hk.at h.u1 n3, h.lay.keep hk (fun k hG e => (h.hG k hG).2.2 e), fun k hk' => by have := h.hG k hk'; have := hk.size; omega, h.bn⟩, hk⟩
theorem RBN.cell (h : RBN w W c cb b l CB G y1 y2 y3 y4 vb kb ub) : W.cell? ⟨b, 1, none⟩ = some y1 ∧ W.cell? ⟨b, 2, none⟩ = some y2 ∧ W.cell? ⟨b, 3, none⟩ = some y3 ∧ W.cell? ⟨b, 4, none⟩ = some y4 := by
  refine ⟨?_, ?_, ?_, ?_⟩ <;> (rw [cell_of h.obj]; rfl)
theorem RBN.fr (h : RBN w W c cb b l CB G y1 y2 y3 y4 vb kb ub) (i : Nat) : W.frozen? ⟨b, i, none⟩ = false := free_of h.obj i
theorem RBN.mk' {w1 V : World} (h0 : Keep Nil w w1) (hV : Keep Nil w1 V) (box : w1.heap[cb]? = some (.cells CB 45 (0, 0))) (obj : V.heap[b]? = some (.cells (rbnCells l c y1 y2 y3 y4 vb kb ub) 122 (0, 0))) (k1 : V.heap[kb]? = some (.cells (zrow c) 3 (0, 0))) (u1 : V.heap[ub]? = some (.cells (zrow c) 3 (0, 0))) (lay : RLAt w1 l c G) (hG : ∀ k, G k → w.heap.size ≤ k ∧ k < w1.heap.size) (hb : w1.heap.size ≤ b) (hkb : w1.heap.size ≤ kb) (hub : w1.heap.size ≤ ub) : RBN w V c cb b l CB G y1 y2 y3 y4 vb kb ub :=
  ⟨h0.trans hV (fun _ _ h => h), hV.at box (fun h => h), obj, k1, u1, lay.quiet hV, fun k e => by have := hG k e; have := hV.size; omega, by have := h0.size; omega⟩
theorem RBN.lt (h : RBN w W c cb b l CB G y1 y2 y3 y4 vb kb ub) : b < W.heap.size := lt_of_block h.obj
end
section
variable {w : World}
set_option maxRecDepth 100000 in
set_option maxHeartbeats 4000000 in
theorem rbnew_ok (c : Cfg) (hok : c.ok) (t1 t2 t3 t4 t5 t6 : Nat) (htw : c.tw = [t1, t2, t3, t4, t5, t6]) (a : Option Addr) (cp : Nat) (hrd : Rd w 1 (.slice a c.d.cuts.length cp) c.d.cuts.length (u64s c.d.cuts)) : Calls Tryz.prog 94 #[cfgV c t1 t2 t3 t4 t5 t6 a cp] w (RBNewTo w c) := by
  have HOK := hid hok
  have HRD := hid hrd
  have HTW := hid htw
  have hz := hid (show 0 < c.words from by have := le_words c; omega)
  have hn := hok.nT
  have hsl := hok.sl2
  have hmi := make_intN (c.nT + 1) (by omega)
  have hms := make_intN c.sl (by omega)
  have hw1 : IntKind.i64.wrap ((c.nT : Int) + 1) = ((c.nT + 1 : Nat) : Int) := by rw [IntKind.wrap_i64]; omega
  clear hok hrd htw
  unfold cfgV
  go_enter Tryz.func94, Tryz.ntmps94
  go_wp2_with fail
  refine (rlnew_ok c HOK.out t1 t2 t3 t4 t5 t6 HTW.out a cp (rd_keep HRD.out ((Keep.refl Nil w).alloc _) (fun _ _ h => h))).mono ?_
  rintro e w1 ⟨l, G, rfl, hl, hk, hG⟩
  have hcb := hk.at (heap_alloc_new w _) (fun h => h)
  have HCB := hid hcb
  have HL := hid hl
  have HK := hid (((Keep.refl Nil w).alloc _).trans hk (fun _ _ h => h))
  have HG := hid (show ∀ k, G k → w.heap.size ≤ k ∧ k < w1.heap.size from fun k h => by have := hG k h; rw [World.size_alloc] at this; omega)
  have hcz : w.heap.size < w1.heap.size := lt_of_block hcb
  clear hcb hk hG
  have hl2 := hl
  obtain ⟨ha, hc, c26, -⟩ := hl.cells.c26
  have hlz := hl.cells.lt
  clear hl hl2
  rw [show ((c.nT + 1 : Nat) : Int) = (c.nT : Int) + 1 from rfl] at hmi hw1
  have d1 : w1.cell? ⟨w.heap.size, 1, none⟩ = some (.int .i64 (c.sl : Int)) := by rw [cell_of HCB.out]; rfl
  go_upto_region 4 with fail
  go_cut [6] (fun bv wx => ∃ b vb kb ub, bv = .pointer (some ⟨b, 0, none⟩) ∧ Hid (RBN w wx c w.heap.size b l #[.int .i64 c.th, .int .i64 c.sl, .int .u8 c.eng, .int .i64 c.bk, .int .u8 c.d.k, .int .i64 c.d.n, .slice a c.d.cuts.length cp, .int .i64 t1, .int .i64 t2, .int .i64 t3, .int .i64 t4, .int .i64 t5, .int .i64 t6, .int .i64 c.lk, .int .i64 c.tr, .int .i64 c.ba] G (.pointer none) (.pointer none) (.pointer none) (.pointer none) vb kb ub))
  case first =>
    go_region
    all_goals
      go_wp2_with fail
      go_meet
      first
        | exact ⟨w1.heap.size + 1 + 1 + 1, w1.heap.size, w1.heap.size + 1, w1.heap.size + 1 + 1, rfl, hid (RBN.mk' HK.out ((Keep.refl Nil w1).drew.trans (ralloc4 _ _ _ _ _).2.2.2.2.1 (fun _ _ h => h)) HCB.out (ralloc4 _ _ _ _ _).2.2.2.1 (ralloc4 _ _ _ _ _).2.1 (ralloc4 _ _ _ _ _).2.2.1 HL.out HG.out (by omega) (by omega) (by omega))⟩
        | exact ⟨w1.heap.size + 1 + 1 + 1, w1.heap.size, w1.heap.size + 1 + 1, w1.heap.size + 1, rfl, hid (RBN.mk' HK.out ((Keep.refl Nil w1).drew.trans (ralloc4 _ _ _ _ _).2.2.2.2.1 (fun _ _ h => h)) HCB.out (ralloc4 _ _ _ _ _).2.2.2.1 (ralloc4 _ _ _ _ _).2.2.1 (ralloc4 _ _ _ _ _).2.1 HL.out HG.out (by omega) (by omega) (by omega))⟩
        | exact ⟨w1.heap.size + 1 + 1 + 1, w1.heap.size + 1, w1.heap.size, w1.heap.size + 1 + 1, rfl, hid (RBN.mk' HK.out ((Keep.refl Nil w1).drew.trans (ralloc4 _ _ _ _ _).2.2.2.2.1 (fun _ _ h => h)) HCB.out (ralloc4 _ _ _ _ _).2.2.2.1 (ralloc4 _ _ _ _ _).1 (ralloc4 _ _ _ _ _).2.2.1 HL.out HG.out (by omega) (by omega) (by omega))⟩
        | exact ⟨w1.heap.size + 1 + 1 + 1, w1.heap.size + 1, w1.heap.size + 1 + 1, w1.heap.size, rfl, hid (RBN.mk' HK.out ((Keep.refl Nil w1).drew.trans (ralloc4 _ _ _ _ _).2.2.2.2.1 (fun _ _ h => h)) HCB.out (ralloc4 _ _ _ _ _).2.2.2.1 (ralloc4 _ _ _ _ _).2.2.1 (ralloc4 _ _ _ _ _).1 HL.out HG.out (by omega) (by omega) (by omega))⟩
        | exact ⟨w1.heap.size + 1 + 1 + 1, w1.heap.size + 1 + 1, w1.heap.size, w1.heap.size + 1, rfl, hid (RBN.mk' HK.out ((Keep.refl Nil w1).drew.trans (ralloc4 _ _ _ _ _).2.2.2.2.1 (fun _ _ h => h)) HCB.out (ralloc4 _ _ _ _ _).2.2.2.1 (ralloc4 _ _ _ _ _).1 (ralloc4 _ _ _ _ _).2.1 HL.out HG.out (by omega) (by omega) (by omega))⟩
        | exact ⟨w1.heap.size + 1 + 1 + 1, w1.heap.size + 1 + 1, w1.heap.size + 1, w1.heap.size, rfl, hid (RBN.mk' HK.out ((Keep.refl Nil w1).drew.trans (ralloc4 _ _ _ _ _).2.2.2.2.1 (fun _ _ h => h)) HCB.out (ralloc4 _ _ _ _ _).2.2.2.1 (ralloc4 _ _ _ _ _).2.1 (ralloc4 _ _ _ _ _).1 HL.out HG.out (by omega) (by omega) (by omega))⟩
  case rest =>
    obtain ⟨b, vb, kb, ub, rfl, HB1⟩ := hcut
    have HW0 := hid (show w1.heap.size ≤ wc.heap.size ∨ True from .inr trivial)
    have hbz := HB1.out.lt
    clear hmi hms hw1 d1 c26 hlz hcz HCB HL HK HG
    go_wp2_with fail
    refine (rinit_ok HB1.out.lay HOK.out).mono ?_
    rintro e w2 ⟨rfl, hrow, hk2⟩
    have HB2 := hid (HB1.out.quiet hk2)
    have hr2 : Rd w2 1 (.slice (some ⟨wc.heap.size, 0, none⟩) c.words c.words) (ints c.init).length (u64s (ints c.init)) := by
      rw [init_len]
      exact rd_of_heap hrow (by rw [show (u64s (ints c.init)).length = (ints c.init).length by simp [u64s], init_len, Nat.mul_one])
    have HR2 := hid hr2
    clear hrow hk2 hr2 hbz
    go_wp2_with fail
    refine (rnew_ok _ (ints c.init) _ HR2.out (by rw [init_len]; exact hz.out) (by rw [init_len]; exact words_le c HOK.out)).mono ?_
    rintro e w3 ⟨mb, F, rfl, hm, hk3, hf⟩
    have B3 := HB2.out.quiet hk3
    have HF := hid (show ∀ k, F k → w2.heap.size ≤ k from fun k h => (hf k h).resolve_left (fun h => h))
    have HLT := hid (show b < w2.heap.size ∧ ∀ k, G k → k < w2.heap.size from ⟨HB2.out.lt, fun k h => (HB2.out.hG k h).2.1⟩)
    have HKU := hid (show kb < w2.heap.size ∧ ub < w2.heap.size from ⟨lt_of_block HB2.out.k1, lt_of_block HB2.out.u1⟩)
    obtain ⟨p1, p2, p3, p4⟩ := B3.cell
    have f3 := B3.fr 1
    obtain ⟨B4, k4⟩ := B3.set (i := 1) (.pointer (some ⟨mb, 0, none⟩)) (x1 := .pointer (some ⟨mb, 0, none⟩)) (x2 := .pointer none) (x3 := .pointer none) (x4 := .pointer none) rfl
    have HM4 := hid (hm.keep k4 (fun k hF e => by have h1 := HF.out k hF; have h2 := HLT.out.1; have e2 : k = b := e; omega))
    have HB4 := hid B4
    have hbz := B3.lt
    obtain ⟨r1, r2, r3, r4⟩ := B4.cell
    clear hm hk3 hf B3 B4 k4 HB1 HB2 HR2
    go_wp2_with fail
    generalize w3.setCell ⟨b, 1, none⟩ (.pointer (some ⟨mb, 0, none⟩)) = W4 at *
    refine (rpool_ok HB4.out.lay.cells HM4.out (init_len c) HOK.out).mono ?_
    rintro e w5 ⟨pb, tb, gvb, gb, rfl, hpl, hk5, hpz⟩
    have B5 := HB4.out.quiet hk5
    have HM5 := hid (HM4.out.keep hk5 (fun _ _ h => h))
    have HPZ := hid (show (∀ k, k = pb ∨ k = tb ∨ k = gvb ∨ k = gb → W4.heap.size ≤ k) ∧ b < W4.heap.size ∧ ∀ k, F k → k < W4.heap.size from ⟨fun k h => (hpz k h).1, HB4.out.lt, fun k h => HM4.out.lt k h⟩)
    have HNE := hid (show ∀ k, k = pb ∨ k = tb ∨ k = gvb ∨ k = gb → ¬ (k = b) from fun k h => by have h1 := HPZ.out.1 k h; have h2 := HPZ.out.2.1; omega)
    clear p1 p2 p3 p4 f3 r1 r2 r3 r4 hbz hk5 HB4 HM4 hpz
    obtain ⟨p1, p2, p3, p4⟩ := B5.cell
    have f3 := B5.fr 2
    have hbz := B5.lt
    obtain ⟨B6, k6⟩ := B5.set (i := 2) (.pointer (some ⟨pb, 0, none⟩)) (x1 := .pointer (some ⟨mb, 0, none⟩)) (x2 := .pointer (some ⟨pb, 0, none⟩)) (x3 := .pointer none) (x4 := .pointer none) rfl
    have HM6 := hid (HM5.out.keep k6 (fun k hF e => by have h1 := HPZ.out.2.2 k hF; have h3 := HF.out k hF; have h2 := HLT.out.1; have e2 : k = b := e; omega))
    have HB6 := hid B6
    have HP6 := hid (hpl.keep k6 HNE.out)
    obtain ⟨r1, r2, r3, r4⟩ := B6.cell
    clear B5 B6 k6 HM5 hpl
    go_wp2_with fail
    generalize w5.setCell ⟨b, 2, none⟩ (.pointer (some ⟨pb, 0, none⟩)) = W6 at *
    refine (rtower_ok HB6.out.lay.cells HM6.out (init_len c)).mono ?_
    rintro e w7 ⟨tw, rfl, hk7⟩
    have B7 := HB6.out.quiet hk7
    have HM7 := hid (HM6.out.keep hk7 (fun _ _ h => h))
    have P7 := HP6.out.keep hk7 (fun _ _ h => h)
    clear p1 p2 p3 p4 f3 r1 r2 r3 r4 hbz hk7 HB6 HM6 HP6
    obtain ⟨p1, p2, p3, p4⟩ := B7.cell
    have f3 := B7.fr 3
    have hbz := B7.lt
    obtain ⟨B8, k8⟩ := B7.set (i := 3) (.pointer (some ⟨tw, 0, none⟩)) (x1 := .pointer (some ⟨mb, 0, none⟩)) (x2 := .pointer (some ⟨pb, 0, none⟩)) (x3 := .pointer (some ⟨tw, 0, none⟩)) (x4 := .pointer none) rfl
    have HM8 := hid (HM7.out.keep k8 (fun k hF e => by have h3 := HF.out k hF; have h2 := HLT.out.1; have e2 : k = b := e; omega))
    have HB8 := hid B8
    have HP8 := hid (P7.keep k8 HNE.out)
    clear B7 B8 k8 HM7 P7
    go_upto_region 8 with fail
    generalize w7.setCell ⟨b, 3, none⟩ (.pointer (some ⟨tw, 0, none⟩)) = W8 at *
    clear p1 p2 p3 p4 f3 hbz
    obtain ⟨r1, r2, r3, r4⟩ := HB8.out.cell
    obtain ⟨n1, n2, -, -, n3, n4⟩ := HB8.out.ne
    have d1 : W8.cell? ⟨w.heap.size, 1, none⟩ = some (.int .i64 (c.sl : Int)) := by rw [cell_of HB8.out.box]; rfl
    have d2 : W8.cell? ⟨w.heap.size, 2, none⟩ = some (.int .u8 c.eng) := by rw [cell_of HB8.out.box]; rfl
    have d3 : W8.cell? ⟨w.heap.size, 3, none⟩ = some (.int .i64 (c.bk : Int)) := by rw [cell_of HB8.out.box]; rfl
    have d4 := HB8.out.lay.cells.c17
    have hbz := HB8.out.lt
    have hlz := HB8.out.lay.cells.lt
    clear r2 r3
    have KD := hid ((Keep.refl Nil W8).drew)
    go_region_held3 (fun w' => w'.cell? ⟨b, 1, none⟩ = some (.pointer (some ⟨mb, 0, none⟩)) ∧ w'.cell? ⟨l, 17, none⟩ = some (.int .i64 (c.engine : Int)) ∧ w'.cell? ⟨w.heap.size, 1, none⟩ = some (.int .i64 (c.sl : Int)) ∧ w'.cell? ⟨w.heap.size, 2, none⟩ = some (.int .u8 c.eng) ∧ w'.cell? ⟨w.heap.size, 3, none⟩ = some (.int .i64 (c.bk : Int))) (first | (exact s9; done) | go_keep)
      (first
        | (go_at_call 162; (with_reducible refine (rpnew_ok (HM8.out.keep KD.out (fun _ _ h => h)) HOK.out (init_len c) (words_le c HOK.out)).mono ?_); rintro e w10 ⟨prb, rfl, hk10⟩; have K10 := hid (KD.out.trans hk10 (fun _ _ h => h)); have B10 := HB8.out.quiet K10.out; obtain ⟨i1, -, -, i4⟩ := B10.cell; have i5 := B10.lay.cells.c17; have j1 : w10.cell? ⟨w.heap.size, 1, none⟩ = some (.int .i64 (c.sl : Int)) := (by rw [cell_of B10.box]; rfl); have j2 : w10.cell? ⟨w.heap.size, 2, none⟩ = some (.int .u8 c.eng) := (by rw [cell_of B10.box]; rfl); have j3 : w10.cell? ⟨w.heap.size, 3, none⟩ = some (.int .i64 (c.bk : Int)) := (by rw [cell_of B10.box]; rfl); have fz := B10.fr 4; have bz10 := B10.lt; obtain ⟨B11, k11⟩ := B10.set (i := 4) (.pointer (some ⟨prb, 0, none⟩)) (x1 := .pointer (some ⟨mb, 0, none⟩)) (x2 := .pointer (some ⟨pb, 0, none⟩)) (x3 := .pointer (some ⟨tw, 0, none⟩)) (x4 := .pointer (some ⟨prb, 0, none⟩)) rfl; have s9 := And.intro B11.cell.1 (And.intro B11.lay.cells.c17 (And.intro (show (w10.setCell ⟨b, 4, none⟩ (.pointer (some ⟨prb, 0, none⟩))).cell? ⟨w.heap.size, 1, none⟩ = some (.int .i64 (c.sl : Int)) from (by rw [cell_of B11.box]; rfl)) (And.intro (show (w10.setCell ⟨b, 4, none⟩ (.pointer (some ⟨prb, 0, none⟩))).cell? ⟨w.heap.size, 2, none⟩ = some (.int .u8 c.eng) from (by rw [cell_of B11.box]; rfl)) (show (w10.setCell ⟨b, 4, none⟩ (.pointer (some ⟨prb, 0, none⟩))).cell? ⟨w.heap.size, 3, none⟩ = some (.int .i64 (c.bk : Int)) from (by rw [cell_of B11.box]; rfl))))); have HB11 := hid B11; have HK11 := hid k11; clear hk10 B10 B11 k11))
    have HM11 := hid ((HM8.out.keep K10.out (fun _ _ h => h)).keep HK11.out (fun k hF e => by have h3 := HF.out k hF; have h2 := HLT.out.1; have e2 : k = b := e; omega))
    have HP11 := hid ((HP8.out.keep K10.out (fun _ _ h => h)).keep HK11.out HNE.out)
    generalize w10.setCell ⟨b, 4, none⟩ (.pointer (some ⟨prb, 0, none⟩)) = W11 at *
    go_wp2
    go_ret2
    have hpl : ∀ k, k = pb ∨ k = tb ∨ k = gvb ∨ k = gb → k < W11.heap.size := fun k h => by
      rcases h with rfl | rfl | rfl | rfl
      · exact lt_of_block HP11.out.head
      · exact lt_of_block HP11.out.tk
      · exact lt_of_block HP11.out.gv
      · exact lt_of_block HP11.out.gn
    have HPL := hid hpl
    have HKB := hid (show ∀ k, k = kb ∨ k = ub → ¬ F k ∧ k < W11.heap.size ∧ k ≠ b ∧ w.heap.size ≤ k from fun k h => by
      have h1 := HKU.out
      have h2 := HB11.out.ne
      have h3 := HB11.out.bn
      have h4 := lt_of_block HB11.out.k1
      have h5 := lt_of_block HB11.out.u1
      rcases h with rfl | rfl
      · exact ⟨fun hF => by have := HF.out _ hF; omega, h4, h2.2.2.1, h3.2.1⟩
      · exact ⟨fun hF => by have := HF.out _ hF; omega, h5, h2.2.2.2.1, h3.2.2⟩)
    have hext : KeepOn W11 (fun k => k = b ∨ (G k ∨ (k = pb ∨ k = tb ∨ k = gvb ∨ k = gb) ∨ (k = kb ∨ k = ub))) (RExtP b mb l c) :=
      ⟨⟨pb, tb, gvb, gb, kb, ub, _, _, _, HB11.out.obj, HP11.out, HB11.out.k1, HB11.out.u1⟩, fun W' S hk hn => ⟨pb, tb, gvb, gb, kb, ub, _, _, _, hk.at HB11.out.obj (hn _ (.inl rfl)), HP11.out.keep hk (fun k e => hn k (.inr (.inr (.inl e)))), hk.at HB11.out.k1 (hn _ (.inr (.inr (.inr (.inl rfl))))), hk.at HB11.out.u1 (hn _ (.inr (.inr (.inr (.inr rfl)))))⟩⟩
    refine ⟨b, mb, fun k => k = b ∨ F k ∨ (G k ∨ (k = pb ∨ k = tb ∨ k = gvb ∨ k = gb) ∨ (k = kb ∨ k = ub)), rfl, ⟨l, F, (fun k => G k ∨ (k = pb ∨ k = tb ∨ k = gvb ∨ k = gb) ∨ (k = kb ∨ k = ub)), ⟨_, _, _, _, _, _, _, _, _, _, HB11.out.obj⟩, HM11.out, HB11.out.lay.on (fun k h => .inl h), fun _ => Iff.rfl, fun h => ?_, fun h => ?_, fun k h => ?_, hext⟩, HB11.out.own, fun k hk => ?_⟩
    · have h1 := HF.out b h; have h2 := HLT.out.1; omega
    · rcases h with h | h | h
      · exact (HB11.out.hG b h).2.2 rfl
      · exact HNE.out b h rfl
      · exact (HKB.out b h).2.2.1 rfl
    · rcases h with h | h | h
      · exact ⟨fun hF => by have h1 := HF.out k hF; have h2 := HLT.out.2 k h; omega, (HB11.out.hG k h).2.1⟩
      · exact ⟨fun hF => by have h1 := HPZ.out.1 k h; have h2 := HPZ.out.2.2 k hF; omega, HPL.out k h⟩
      · exact ⟨(HKB.out k h).1, (HKB.out k h).2.1⟩
    · have h0 := HB11.out.bn.1
      have h2 := HLT.out.1
      rcases hk with rfl | h | h | h | h
      · exact h0
      · have := HF.out k h; omega
      · exact (HB11.out.hG k h).1
      · have h1 := HPZ.out.1 k h; have h3 := HPZ.out.2.1; omega
      · exact (HKB.out k h).2.2.2
end
end Go.Proofs.YtmafdjhjmnghcaaGreat

/-! A store by the program and one by the reference (leapfroglaw24.Open). -/
set_option linter.unusedVariables false
set_option linter.unusedSimpArgs false
namespace Go.Lf
theorem results_row_tmp {P : Program} {fn : Func} {p u : Tmp} {ty : TypeId} (h : fn.results = #[.cell p ty, .tmp u]) (tmps : Array Value) (w : World) (g : Nat) (t : TypeId) (cs : Array Value) (fr : Nat × Nat) (d : TypeDesc)
    (hp : tmps.getD p undef = .pointer (some ⟨g, 0, none⟩)) (hg : w.heap[g]? = some (.cells cs t fr))
    (hu : P.underlying ty = some d) (hd : (match d with | .struct _ | .array _ _ => true | _ => false) = true) (hi : (P.info? ty).map (·.size) = some cs.size) :
    (results fn tmps).run P w = .ok (.tuple #[.agg cs, tmps.getD u undef]) w := by
  have hp' : tmps[p]?.getD undef = .pointer (some ⟨g, 0, none⟩) := by simpa using hp
  rw [results_cell_tmp h, hp]
  simp [asAddr, run_loadVar_row w g t ty cs fr d hg hu hd hi, Result.andThen]
end Go.Lf
namespace Go.Proofs.YtmafdjhjmnghcaaGreat
open Go.RowKit Go.Lf
section
variable {w : World}
/-- Both stores, opened. -/
def OpenTo (w : World) (c : Cfg) (e : Ending) (w' : World) : Prop :=
  ∃ b mb rb rm, e = .returned (.tuple #[.agg #[.pointer (some ⟨b, 0, none⟩), .pointer (some ⟨rb, 0, none⟩)], .bool true]) ∧ Two (StoreL c b mb) (RStoreL c rb rm) w Nil (ints c.init, []) (ints c.init, []) w'
theorem infoTwo : (Tryz.prog.info? 96).map (·.size) = some 2 := by kernel_rfl
set_option maxRecDepth 100000 in
set_option maxHeartbeats 4000000 in
theorem open2_ok (c : Cfg) (hok : c.ok) (t1 t2 t3 t4 t5 t6 : Nat) (htw : c.tw = [t1, t2, t3, t4, t5, t6]) (a : Option Addr) (cp : Nat) (hrd : Rd w 1 (.slice a c.d.cuts.length cp) c.d.cuts.length (u64s c.d.cuts)) : Calls Tryz.prog 48 #[cfgV c t1 t2 t3 t4 t5 t6 a cp] w (OpenTo w c) := by
  have HOK := hid hok
  have HRD := hid hrd
  have HTW := hid htw
  have CP := fun w a cp h => hid (@cpc_ok w c hok t1 t2 t3 t4 t5 t6 a cp h)
  have BN := fun w a cp h => hid (@bnew_ok w c hok t1 t2 t3 t4 t5 t6 htw a cp h)
  have RN := fun w a cp h => hid (@rbnew_ok w c hok t1 t2 t3 t4 t5 t6 htw a cp h)
  clear hok hrd htw
  unfold cfgV at *
  go_enter Tryz.func48, Tryz.ntmps48
  go_wp2_with fail
  refine (CP _ a cp (rd_keep HRD.out (((Keep.refl Nil w).alloc _).alloc _) (fun _ _ h => h))).out.mono ?_
  rintro e w2 ⟨a2, cp2, rfl, hrd2, hk2⟩
  have hb1 := hk2.at (alloc_old (heap_alloc_new w _) _) (fun h => h)
  have hb2 := hk2.at (heap_alloc_new (w.alloc _) _) (fun h => h)
  rw [World.size_alloc] at hb2
  have HB1 := hid hb1
  have HB2 := hid hb2
  have HK2 := hid (show Keep Nil w w2 from (((Keep.refl Nil w).alloc _).alloc _).trans hk2 (fun _ _ h => h))
  have HR2 := hid hrd2
  clear hk2 hb1 hb2 hrd2
  go_wp2_with fail
  refine (BN _ a2 cp2 HR2.out).out.mono ?_
  rintro e w3 ⟨b, mb, A, rfl, hl, hk3, hA⟩
  have hb1 := hk3.at HB1.out (fun h => h)
  have hb2 := hk3.at HB2.out (fun h => h)
  obtain ⟨b0, b1, b2, b3, b4, b5, b6, b7, b8, b9, b10, b11, b12, b13, b14, b15⟩ := bx16 hb1
  have hz1 : w.heap.size < w3.heap.size := lt_of_block hb1
  have HK3 := hid (HK2.out.trans hk3 (fun _ _ h => h))
  have HL := hid hl
  have HA := hid (show ∀ k, A k → w2.heap.size ≤ k from hA)
  have HB2' := hid hb2
  have HZ2 := hid (show w.heap.size + 1 < w2.heap.size from lt_of_block HB2.out)
  clear hk3 hb1 hb2 hl hA HB2
  go_wp2_with fail
  refine (RN _ a cp (rd_keep HRD.out HK3.out (fun _ _ h => h))).out.mono ?_
  rintro e w4 ⟨rb, rm, B, rfl, hr, hk4, hB⟩
  have hb2 := hk4.at HB2'.out (fun h => h)
  have e0 := cell_of hb2 0
  have e1 := cell_of hb2 1
  have f2 : ∀ i, w4.frozen? ⟨w.heap.size + 1, i, none⟩ = false := fun i => free_of hb2 i
  have hz2 : w.heap.size + 1 < w4.heap.size := lt_of_block hb2
  have HB4 := hid hb2
  have HL4 := hid ((StoreL c b mb).keep HL.out hk4 (fun _ _ h => h))
  have HR := hid hr
  have HB := hid (show ∀ k, B k → w3.heap.size ≤ k from hB)
  have HK4 := hid (HK3.out.trans hk4 (fun _ _ h => h))
  have HAL := hid (show ∀ k, A k → k < w3.heap.size from (StoreL c b mb).lt HL.out)
  have HZ3 := hid (show w.heap.size + 1 < w3.heap.size from lt_of_block HB2'.out)
  clear hk4 hb2 hr hB b0 b1 b2 b3 b4 b5 b6 b7 b8 b9 b10 b11 b12 b13 b14 b15 hz1 CP BN RN
  go_wp2
  have hfin : ((w4.setCell ⟨w.heap.size + 1, 0, none⟩ (.pointer (some ⟨b, 0, none⟩))).setCell ⟨w.heap.size + 1, 1, none⟩ (.pointer (some ⟨rb, 0, none⟩))).heap[w.heap.size + 1]? = some (.cells #[.pointer (some ⟨b, 0, none⟩), .pointer (some ⟨rb, 0, none⟩)] 96 (0, 0)) := set_same (set_same HB4.out _) _
  have hkf : Keep (fun k => k = w.heap.size + 1) w4 ((w4.setCell ⟨w.heap.size + 1, 0, none⟩ (.pointer (some ⟨b, 0, none⟩))).setCell ⟨w.heap.size + 1, 1, none⟩ (.pointer (some ⟨rb, 0, none⟩))) := ((Keep.refl (fun k => k = w.heap.size + 1) w4).setCell (p := ⟨w.heap.size + 1, 0, none⟩) (.inl rfl) _).setCell (p := ⟨w.heap.size + 1, 1, none⟩) (.inl rfl) _
  refine bodyPost_ret (results_row_tmp rfl _ _ (w.heap.size + 1) _ _ (0, 0) _ rfl hfin Tryz.underlying96 rfl infoTwo) rfl ⟨b, mb, rb, rm, rfl, ⟨A, B, (StoreL c b mb).keep HL4.out hkf (fun k h e => ?_), (RStoreL c rb rm).keep HR.out hkf (fun k h e => ?_), fun k h => ⟨fun e => ?_, fun e => e, ?_⟩, fun k h => ⟨fun e => e, ?_⟩⟩, fun k e => e.elim, HK4.out.trans hkf (fun k hlt e => ?_)⟩
  · have h1 := HA.out k h; have h2 := HZ2.out; have h3 : k = w.heap.size + 1 := e; omega
  · have h1 := HB.out k h; have h2 := HZ3.out; have h3 : k = w.heap.size + 1 := e; omega
  · have h1 := HB.out k e; have h2 := HAL.out k h; omega
  · have h1 := HA.out k h; have h2 := HZ2.out; omega
  · have h1 := HB.out k h; have h2 := HZ3.out; omega
  · have h3 : k = w.heap.size + 1 := e; omega
end
end Go.Proofs.YtmafdjhjmnghcaaGreat

/-! A store by the program and one by the reference, with objects beside them: a store in both (law24.Two.Store). -/
set_option linter.unusedVariables false
set_option linter.unusedSimpArgs false
namespace Go.Proofs.YtmafdjhjmnghcaaGreat
open Go.RowKit Go.Lf
abbrev T2 {ω ω' : Type} (O : OpLies ω) (O' : OpLies ω') (c : Cfg) (b mb rb rm : Nat) (w : World) (L : Nat → Prop) (x : List Int × List Acc) (ops : List ω) (bl : List Nat) (y : List Int × List Acc) (ops' : List ω') (bl' : List Nat) (wr : World) : Prop :=
  Two ((StoreL c b mb).objs O) ((RStoreL c rb rm).objs O') w L (x, ops, bl) (y, ops', bl') wr
section
variable {ω ω' : Type} {O : OpLies ω} {O' : OpLies ω'} {c : Cfg} {b mb rb rm : Nat} {w wr w' : World} {L : Nat → Prop} {x y : List Int × List Acc} {ops : List ω} {bl : List Nat} {ops' : List ω'} {bl' : List Nat}
theorem T2.init (h : Two (StoreL c b mb) (RStoreL c rb rm) w L x y wr) : T2 O O' c b mb rb rm w L x [] [] y [] [] wr := by
  obtain ⟨⟨A, B, h1, h2, h3, h4⟩, h5, h6⟩ := h
  exact ⟨⟨A, B, ⟨A, ObjsAt.init h1⟩, ⟨B, ObjsAt.init h2⟩, h3, h4⟩, h5, h6⟩
theorem T2.sp (h : T2 O O' c b mb rb rm w L x ops bl y ops' bl' wr) : ∃ A l F G, SP wr A c b mb l F G x.1 x.2 := by
  obtain ⟨A, F, h1⟩ := h.has1
  obtain ⟨l, F1, G, hsp⟩ := h1.sys
  exact ⟨F, l, F1, G, hsp⟩
theorem T2.rp (h : T2 O O' c b mb rb rm w L x ops bl y ops' bl' wr) : ∃ B l F G, RP wr B c rb rm l F G y.1 y.2 := by
  obtain ⟨A, F, h1⟩ := h.has2
  obtain ⟨l, F1, G, hsp⟩ := h1.sys
  exact ⟨F, l, F1, G, hsp⟩
theorem T2.rc1 (h : T2 O O' c b mb rb rm w L x ops bl y ops' bl' wr) : wr.cell? ⟨rb, 1, none⟩ = some (.pointer (some ⟨rm, 0, none⟩)) ∧ rb < wr.heap.size ∧ rm < wr.heap.size := by
  obtain ⟨B, l, F, G, hp⟩ := h.rp
  exact ⟨hp.c1, hp.bl, hp.mem.lt rm hp.mem.has⟩
theorem T2.rc0 (h : T2 O O' c b mb rb rm w L x ops bl y ops' bl' wr) : ∃ l, wr.cell? ⟨rb, 0, none⟩ = some (.pointer (some ⟨l, 0, none⟩)) ∧ RLC wr l c ∧ rb < wr.heap.size := by
  obtain ⟨B, l, F, G, hp⟩ := h.rp
  exact ⟨l, hp.c0, hp.lay.1, hp.bl⟩
theorem T2.rl (h : T2 O O' c b mb rb rm w L x ops bl y ops' bl' wr) : ∃ l, (∀ w', Keep Nil wr w' → w'.cell? ⟨rb, 0, none⟩ = some (.pointer (some ⟨l, 0, none⟩)) ∧ RLC w' l c) ∧ rb < wr.heap.size := by
  obtain ⟨B, l, F, G, hp⟩ := h.rp
  exact ⟨l, fun w' hk => ⟨hk.cell hp.c0 (fun h => h), hp.lay.2 w' Nil hk (fun _ _ h => h)⟩, hp.bl⟩
theorem t2_mem (h : T2 O O' c b mb rb rm w L x ops bl y ops' bl' wr) : Calls Tryz.prog 24 #[.pointer (some ⟨b, 0, none⟩)] wr fun e w' => e = .returned (.pointer (some ⟨mb, 0, none⟩)) ∧ wr = w' := by
  obtain ⟨A, l, F, G, hsp⟩ := h.sp
  exact bmem_ok hsp
/-- A new log entry of a store. -/
def stAcc (t a : Int) (ws : List Int) (v : Int) : Acc := ⟨t, a, 2, (ws[a.toNat]?).getD 0, v, false⟩
theorem t2_sA (h : T2 O O' c b mb rb rm w L x ops bl y ops' bl' wr) (t a v : Int) (t0 : 0 ≤ t) (t1 : t < 64) (a0 : 0 ≤ a) (ha : a.toNat < x.1.length) (hl : x.2.length < 1000000000000) :
    Calls Tryz.prog 25 #[.pointer (some ⟨mb, 0, none⟩), .int .i64 t, .int .i64 a, .int .u64 v] wr fun e w' => e = .returned (.int .i64 0) ∧ T2 O O' c b mb rb rm w L (x.1.set a.toNat v, x.2 ++ [stAcc t a x.1 v]) ops bl y ops' bl' w' ∧ Keep (Out w L) wr w' := by
  refine h.call1 (s' := ((x.1.set a.toNat v, x.2 ++ [stAcc t a x.1 v]), ops, bl)) (fun A hA => ?_)
  obtain ⟨F, ho⟩ := hA
  obtain ⟨l, F1, G, hsp⟩ := ho.sys
  have hx : x.1[a.toNat]? = some ((x.1[a.toNat]?).getD 0) := by rw [List.getElem?_eq_getElem ha]; rfl
  refine (store_ok hsp.mem t a _ v t0 t1 a0 hx hl).mono ?_
  rintro e w' ⟨rfl, hto⟩
  obtain ⟨F', h1, h2, h3⟩ := hsp.turn (Keep.refl Nil wr) hto
  exact ⟨rfl, ho.none h1 h2 h3⟩
theorem t2_sB (h : T2 O O' c b mb rb rm w L x ops bl y ops' bl' wr) (t a v : Int) (t0 : 0 ≤ t) (t1 : t < 64) (a0 : 0 ≤ a) (ha : a.toNat < y.1.length) (hl : y.2.length < 1000000000000) :
    Calls Tryz.prog 98 #[.pointer (some ⟨rm, 0, none⟩), .int .i64 t, .int .i64 a, .int .u64 v] wr fun e w' => e = .returned (.int .i64 0) ∧ T2 O O' c b mb rb rm w L x ops bl (y.1.set a.toNat v, y.2 ++ [stAcc t a y.1 v]) ops' bl' w' ∧ Keep (Out w L) wr w' := by
  refine h.call2 (r' := ((y.1.set a.toNat v, y.2 ++ [stAcc t a y.1 v]), ops', bl')) (fun A hA => ?_)
  obtain ⟨F, ho⟩ := hA
  obtain ⟨l, F1, G, hsp⟩ := ho.sys
  have hx : y.1[a.toNat]? = some ((y.1[a.toNat]?).getD 0) := by rw [List.getElem?_eq_getElem ha]; rfl
  refine (rstore_ok hsp.mem t a _ v t0 t1 a0 hx hl).mono ?_
  rintro e w' ⟨rfl, hto⟩
  obtain ⟨F', h1, h2, h3⟩ := hsp.turn (Keep.refl Nil wr) hto
  exact ⟨rfl, ho.none h1 h2 h3⟩
/-- A block of the walk's own is put beside. -/
theorem T2.own1 (h : T2 O O' c b mb rb rm w L x ops bl y ops' bl' wr) (o : Obj) : T2 O O' c b mb rb rm w (fun k => L k ∨ k = wr.heap.size) x ops bl y ops' bl' (wr.alloc o) :=
  h.loc ((Keep.refl L wr).alloc o) (fun k e => e.imp id (fun e => by subst e; exact ⟨Nat.le_refl _, by simp⟩))
def StoreTo {ω ω' : Type} (O : OpLies ω) (O' : OpLies ω') (c : Cfg) (b mb rb rm : Nat) (w wr : World) (L : Nat → Prop) (x : List Int × List Acc) (ops : List ω) (bl : List Nat) (y : List Int × List Acc) (ops' : List ω') (bl' : List Nat) (t a v : Int) (e : Ending) (w' : World) : Prop :=
  e = .returned (.bool true) ∧ T2 O O' c b mb rb rm w L (x.1.set a.toNat v, x.2 ++ [stAcc t a x.1 v]) ops bl (y.1.set a.toNat v, y.2 ++ [stAcc t a y.1 v]) ops' bl' w' ∧ Keep (Out w L) wr w'
set_option maxRecDepth 100000 in
set_option maxHeartbeats 4000000 in
theorem t2_store (h : T2 O O' c b mb rb rm w L x ops bl y ops' bl' wr) (t a v : Int) (t0 : 0 ≤ t) (t1 : t < 64) (a0 : 0 ≤ a) (hax : a.toNat < x.1.length) (hay : a.toNat < y.1.length) (hlx : x.2.length < 1000000000000) (hly : y.2.length < 1000000000000) :
    Calls Tryz.prog 53 #[.agg #[.pointer (some ⟨b, 0, none⟩), .pointer (some ⟨rb, 0, none⟩)], .int .i64 t, .int .i64 a, .int .u64 v] wr (StoreTo O O' c b mb rb rm w wr L x ops bl y ops' bl' t a v) := by
  have H := hid h
  have HT := hid (And.intro t0 t1)
  have HA := hid (And.intro a0 (And.intro hax hay))
  have HL := hid (And.intro hlx hly)
  have HZ := hid (show w.heap.size ≤ wr.heap.size from h.own.size)
  clear h t0 t1 a0 hax hay hlx hly
  go_enter Tryz.func53, Tryz.ntmps53
  go_upto_region 1 with fail
  obtain ⟨W, hW⟩ : ∃ W, W = wr.alloc (.cells #[.pointer (some ⟨b, 0, none⟩), .pointer (some ⟨rb, 0, none⟩)] 96) := ⟨_, rfl⟩
  rw [← hW]
  have h1 := H.out.own1 (.cells #[.pointer (some ⟨b, 0, none⟩), .pointer (some ⟨rb, 0, none⟩)] 96)
  have hbx := heap_alloc_new wr (.cells #[.pointer (some ⟨b, 0, none⟩), .pointer (some ⟨rb, 0, none⟩)] 96)
  have hkw := (Keep.refl Nil wr).alloc (.cells #[.pointer (some ⟨b, 0, none⟩), .pointer (some ⟨rb, 0, none⟩)] 96)
  rw [← hW] at h1 hbx hkw
  obtain ⟨L1, hL1⟩ : ∃ L1 : Nat → Prop, L1 = fun k => L k ∨ k = wr.heap.size := ⟨_, rfl⟩
  rw [← hL1] at h1
  have HL1 := hid hL1
  clear hW hL1
  have hd := h1.quiet ((Keep.refl Nil W).drew)
  have HD := hid hd
  have HBX := hid hbx
  have c0 : W.cell? ⟨wr.heap.size, 0, none⟩ = some (.pointer (some ⟨b, 0, none⟩)) := by rw [cell_of hbx]; rfl
  have c1 : W.cell? ⟨wr.heap.size, 1, none⟩ = some (.pointer (some ⟨rb, 0, none⟩)) := by rw [cell_of hbx]; rfl
  obtain ⟨c2, z1, z2⟩ := h1.rc1
  have z0 : wr.heap.size < W.heap.size := lt_of_block hbx
  have HKW := hid hkw
  clear h1 hbx hkw
  have HBD := hid (show (W.drew).heap[wr.heap.size]? = _ from HBX.out)
  have HBL := hid (show L1 wr.heap.size from by rw [HL1.out]; exact .inr rfl)
  go_region_held3 (fun w' => w'.cell? ⟨wr.heap.size, 0, none⟩ = some (.pointer (some ⟨b, 0, none⟩)) ∧ w'.cell? ⟨wr.heap.size, 1, none⟩ = some (.pointer (some ⟨rb, 0, none⟩)) ∧ w'.cell? ⟨rb, 1, none⟩ = some (.pointer (some ⟨rm, 0, none⟩))) (first | (exact s9; done) | go_keep)
    (first
      | (go_at_call 24; (with_reducible refine (t2_mem XB.out).mono ?_); rintro e w1 ⟨rfl, rfl⟩)
      | (go_at_call 24; (with_reducible refine (t2_mem HD.out).mono ?_); rintro e w1 ⟨rfl, rfl⟩)
      | (go_at_call 25; (with_reducible refine (t2_sA XB.out _ _ _ HT.out.1 HT.out.2 HA.out.1 HA.out.2.1 HL.out.1).mono ?_); rintro e w1 ⟨rfl, h1, k1⟩; have x0 := k1.loc KB.out.1 HBL.out; have s9 := And.intro (show w1.cell? ⟨wr.heap.size, 0, none⟩ = some (.pointer (some ⟨b, 0, none⟩)) from (by rw [cell_of x0]; rfl)) (And.intro (show w1.cell? ⟨wr.heap.size, 1, none⟩ = some (.pointer (some ⟨rb, 0, none⟩)) from (by rw [cell_of x0]; rfl)) h1.rc1.1); have sz := And.intro (lt_of_block x0) h1.rc1.2; have XF := hid h1; have KF := hid (And.intro x0 k1); clear h1 k1 x0)
      | (go_at_call 25; (with_reducible refine (t2_sA HD.out _ _ _ HT.out.1 HT.out.2 HA.out.1 HA.out.2.1 HL.out.1).mono ?_); rintro e w1 ⟨rfl, h1, k1⟩; have x0 := k1.loc HBD.out HBL.out; have s9 := And.intro (show w1.cell? ⟨wr.heap.size, 0, none⟩ = some (.pointer (some ⟨b, 0, none⟩)) from (by rw [cell_of x0]; rfl)) (And.intro (show w1.cell? ⟨wr.heap.size, 1, none⟩ = some (.pointer (some ⟨rb, 0, none⟩)) from (by rw [cell_of x0]; rfl)) h1.rc1.1); have sz := And.intro (lt_of_block x0) h1.rc1.2; have XA := hid h1; have KA := hid (And.intro x0 k1); clear h1 k1 x0)
      | (go_at_call 98; (with_reducible refine (t2_sB XA.out _ _ _ HT.out.1 HT.out.2 HA.out.1 HA.out.2.2 HL.out.2).mono ?_); rintro e w1 ⟨rfl, h1, k1⟩; have x0 := k1.loc KA.out.1 HBL.out; have s9 := And.intro (show w1.cell? ⟨wr.heap.size, 0, none⟩ = some (.pointer (some ⟨b, 0, none⟩)) from (by rw [cell_of x0]; rfl)) (And.intro (show w1.cell? ⟨wr.heap.size, 1, none⟩ = some (.pointer (some ⟨rb, 0, none⟩)) from (by rw [cell_of x0]; rfl)) h1.rc1.1); have sz := And.intro (lt_of_block x0) h1.rc1.2; have XF := hid h1; have KF := hid (And.intro x0 k1); clear h1 k1 x0)
      | (go_at_call 98; (with_reducible refine (t2_sB HD.out _ _ _ HT.out.1 HT.out.2 HA.out.1 HA.out.2.2 HL.out.2).mono ?_); rintro e w1 ⟨rfl, h1, k1⟩; have x0 := k1.loc HBD.out HBL.out; have s9 := And.intro (show w1.cell? ⟨wr.heap.size, 0, none⟩ = some (.pointer (some ⟨b, 0, none⟩)) from (by rw [cell_of x0]; rfl)) (And.intro (show w1.cell? ⟨wr.heap.size, 1, none⟩ = some (.pointer (some ⟨rb, 0, none⟩)) from (by rw [cell_of x0]; rfl)) h1.rc1.1); have sz := And.intro (lt_of_block x0) h1.rc1.2; have XB := hid h1; have KB := hid (And.intro x0 k1); clear h1 k1 x0))
  all_goals
    go_wp2
    go_ret
    have hout : ∀ k, k < wr.heap.size → Out w L1 k → Out w L k := fun k hlt e => ⟨fun hl => e.1 (by rw [HL1.out]; exact .inl hl), e.2⟩
    have hless := XF.out.less (L' := L) (fun k hl => by rw [HL1.out]; exact .inl hl)
    first
      | exact ⟨rfl, hless, (HKW.out.drew.mono (T := Out w L) (fun _ _ h => h.elim)).trans (KA.out.2.trans KF.out.2 (fun _ _ h => h)) hout⟩
      | exact ⟨rfl, hless, (HKW.out.drew.mono (T := Out w L) (fun _ _ h => h.elim)).trans (KB.out.2.trans KF.out.2 (fun _ _ h => h)) hout⟩
end
end Go.Proofs.YtmafdjhjmnghcaaGreat
