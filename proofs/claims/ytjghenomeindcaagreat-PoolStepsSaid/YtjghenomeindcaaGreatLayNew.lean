/- layout.New: the walk. -/
import Derived.Test.YtjghenomeindcaaGreatLayNewA
set_option linter.unusedVariables false
set_option linter.unusedSimpArgs false
namespace Go.Proofs.YtjghenomeindcaaGreat
open Go.RowKit Go.Lf
section
variable {w : World}
theorem nil_own {n c k : Nat} (h : (Value.slice none n c).ownBlock = some k) : False := by cases h
theorem vals_ok (d : Dom) (h : d.ok) {a : Option Addr} {cp : Nat} (hrd : Rd w 1 (.slice a d.cuts.length cp) d.cuts.length (u64s d.cuts)) (hm : d.cuts.length ≤ 1000000) :
    Calls Tryz.prog 70 #[.agg #[.int .u8 d.k, .int .i64 d.n, .slice a d.cuts.length cp]] w fun e w' => e = .returned (.tuple #[.int .i64 d.cnt, .int .i64 0]) ∧ Keep Nil w w' := values_ok d h hrd hm
theorem jx0 (x0 x1 x2 x3 x4 x5 : Value) (W : World) : (Instr.index 40 (.agg #[x0, x1, x2, x3, x4, x5]) (.int .i64 0)).run Tryz.prog W = .ok x0 W := by kernel_rfl
theorem jx1 (x0 x1 x2 x3 x4 x5 : Value) (W : World) : (Instr.index 40 (.agg #[x0, x1, x2, x3, x4, x5]) (.int .i64 1)).run Tryz.prog W = .ok x1 W := by kernel_rfl
theorem jx2 (x0 x1 x2 x3 x4 x5 : Value) (W : World) : (Instr.index 40 (.agg #[x0, x1, x2, x3, x4, x5]) (.int .i64 2)).run Tryz.prog W = .ok x2 W := by kernel_rfl
theorem jx3 (x0 x1 x2 x3 x4 x5 : Value) (W : World) : (Instr.index 40 (.agg #[x0, x1, x2, x3, x4, x5]) (.int .i64 3)).run Tryz.prog W = .ok x3 W := by kernel_rfl
theorem jx4 (x0 x1 x2 x3 x4 x5 : Value) (W : World) : (Instr.index 40 (.agg #[x0, x1, x2, x3, x4, x5]) (.int .i64 4)).run Tryz.prog W = .ok x4 W := by kernel_rfl
theorem jx5 (x0 x1 x2 x3 x4 x5 : Value) (W : World) : (Instr.index 40 (.agg #[x0, x1, x2, x3, x4, x5]) (.int .i64 5)).run Tryz.prog W = .ok x5 W := by kernel_rfl
theorem jx_any (t1 t2 t3 t4 t5 t6 k n : Nat) (h : [t1, t2, t3, t4, t5, t6][k]? = some n) (W : World) : (Instr.index 40 (.agg #[.int .i64 (t1 : Int), .int .i64 (t2 : Int), .int .i64 (t3 : Int), .int .i64 (t4 : Int), .int .i64 (t5 : Int), .int .i64 (t6 : Int)]) (.int .i64 (k : Int))).run Tryz.prog W = .ok (.int .i64 (n : Int)) W := by
  match k, h with
  | 0, h => cases h; exact jx0 ..
  | 1, h => cases h; exact jx1 ..
  | 2, h => cases h; exact jx2 ..
  | 3, h => cases h; exact jx3 ..
  | 4, h => cases h; exact jx4 ..
  | 5, h => cases h; exact jx5 ..
  | k + 6, h => simp at h
theorem box16c {W : World} {cb : Nat} {x0 x1 x2 x3 x4 x5 x6 x7 x8 x9 x10 x11 x12 x13 x14 x15 : Value} {t : TypeId} (h : W.heap[cb]? = some (.cells #[x0, x1, x2, x3, x4, x5, x6, x7, x8, x9, x10, x11, x12, x13, x14, x15] t (0, 0))) : W.cell? ⟨cb, 0, none⟩ = some x0 ∧ W.cell? ⟨cb, 1, none⟩ = some x1 ∧ W.cell? ⟨cb, 2, none⟩ = some x2 ∧ W.cell? ⟨cb, 3, none⟩ = some x3 ∧ W.cell? ⟨cb, 4, none⟩ = some x4 ∧ W.cell? ⟨cb, 5, none⟩ = some x5 ∧ W.cell? ⟨cb, 6, none⟩ = some x6 ∧ W.cell? ⟨cb, 7, none⟩ = some x7 ∧ W.cell? ⟨cb, 8, none⟩ = some x8 ∧ W.cell? ⟨cb, 9, none⟩ = some x9 ∧ W.cell? ⟨cb, 10, none⟩ = some x10 ∧ W.cell? ⟨cb, 11, none⟩ = some x11 ∧ W.cell? ⟨cb, 12, none⟩ = some x12 ∧ W.cell? ⟨cb, 13, none⟩ = some x13 ∧ W.cell? ⟨cb, 14, none⟩ = some x14 ∧ W.cell? ⟨cb, 15, none⟩ = some x15 := by
  refine ⟨?_, ?_, ?_, ?_, ?_, ?_, ?_, ?_, ?_, ?_, ?_, ?_, ?_, ?_, ?_, ?_⟩ <;> (rw [cell_of h]; rfl)
set_option maxRecDepth 100000 in
set_option maxHeartbeats 20000000 in
theorem lnew_ok (c : Cfg) (hok : c.ok) (t1 t2 t3 t4 t5 t6 : Nat) (htw : c.tw = [t1, t2, t3, t4, t5, t6]) (a : Option Addr) (cp : Nat) (hrd : Rd w 1 (.slice a c.d.cuts.length cp) c.d.cuts.length (u64s c.d.cuts)) : Calls Tryz.prog 26 #[cfgV c t1 t2 t3 t4 t5 t6 a cp] w (NewTo w c) := by
  have HC := hid hok
  have HRD := hid hrd
  have HM := hid (show c.d.cuts.length ≤ 1000000 by
    rcases hok.d with ⟨_, _, h⟩ | ⟨_, _, h⟩ | ⟨_, _, h, _⟩
    · rw [h]; decide
    · rw [h]; decide
    · omega)
  clear hok hrd
  unfold cfgV
  go_enter Tryz.func26, Tryz.ntmps26
  go_wp2_with fail
  refine (lcheck_ok c HC.out t1 t2 t3 t4 t5 t6 htw a cp (rd_keep HRD.out ((Keep.refl Nil w).alloc _) (fun _ _ h => h))).mono ?_
  rintro e w1 ⟨rfl, hk⟩
  have hB := hk.at (heap_alloc_new w _) (fun h => h)
  have HB := hid hB
  have HK := hid (((Keep.refl Nil w).alloc _).trans hk (fun _ _ h => h))
  have cb6 : w1.cell? ⟨w.heap.size, 6, none⟩ = some (.slice a c.d.cuts.length cp) := by rw [cell_of hB]; rfl
  have cbz : w.heap.size < w1.heap.size := lt_of_block hB
  clear hB hk
  go_wp2_with fail
  refine (clone_ok c.d.cuts a cp (rd_keep HRD.out HK.out (fun _ _ h => h)) HM.out).mono ?_
  rintro e w2 ⟨a2, cp2, rfl, hr2, hk2, ho2⟩
  have hB2 := hk2.at HB.out (fun h => h)
  have HB2 := hid hB2
  have HR2 := hid hr2
  have HK2 := hid (HK.out.trans hk2 (fun _ _ h => h))
  have HO2 := hid ho2
  obtain ⟨b0, b1, b2, b3, b4, b5, b6, b7, b8, b9, b10, b11, b12, b13, b14, b15⟩ := box16c hB2
  have bz : w.heap.size < w2.heap.size := lt_of_block hB2
  have fz : w2.frozen? ⟨w.heap.size, 6, none⟩ = false := free_of hB2 6
  clear hB2 hr2 hk2 ho2 cb6 cbz
  go_wp2_with fail
  obtain ⟨W0, hW0⟩ : ∃ W0, W0 = ((w2.setCell ⟨w.heap.size, 6, none⟩ (.slice a2 c.d.cuts.length cp2)).alloc (.cells (layC c t1 t2 t3 t4 t5 t6 a2 cp2 0 0 0 0 0 0 0 0 0 0 (.slice none 0 0) (.slice none 0 0) (.slice none 0 0) 0) 152 (0, 0))).alloc (.cells #[.pointer (some ⟨w2.heap.size, 0, none⟩)] 48 (0, 0)) := ⟨_, rfl⟩
  obtain ⟨x, hx⟩ : ∃ x : CT, x = ⟨c, t1, t2, t3, t4, t5, t6, a2, cp2⟩ := ⟨_, rfl⟩
  have N0 : NA w W0 w.heap.size (w2.heap.size + 1) w2.heap.size x.box (layC c t1 t2 t3 t4 t5 t6 a2 cp2 0 0 0 0 0 0 0 0 0 0 (.slice none 0 0) (.slice none 0 0) (.slice none 0 0) 0) none 0 0 none [] 0 none [] 0 a2 c.d.cuts cp2 := by
    have zs : (w2.setCell ⟨w.heap.size, 6, none⟩ (.slice a2 c.d.cuts.length cp2)).heap.size = w2.heap.size := by simp
    have e1 := set_same HB2.out (i := 6) (.slice a2 c.d.cuts.length cp2)
    have hkz : Keep (fun k => k = w.heap.size) w2 W0 := by rw [hW0]; exact ((Keep.setCell (Keep.refl (fun k => k = w.heap.size) w2) (.inl rfl) _).alloc _).alloc _
    have en : ∀ (e : TypeId) (sz : Nat), W0.ownsRow 0 e sz (.slice none 0 0) 0 [] := fun e sz => ⟨by simp, .inl ⟨rfl, rfl⟩⟩
    have f1 : W0.heap[w.heap.size]? = some (.cells x.box 42 (0, 0)) := by
      rw [hW0, hx]
      exact alloc_old (alloc_old e1 _) _
    have f2 : W0.heap[w2.heap.size + 1]? = some (.cells #[.pointer (some ⟨w2.heap.size, 0, none⟩)] 48 (0, 0)) := by
      rw [hW0]
      have := heap_alloc_new ((w2.setCell ⟨w.heap.size, 6, none⟩ (.slice a2 c.d.cuts.length cp2)).alloc (.cells (layC c t1 t2 t3 t4 t5 t6 a2 cp2 0 0 0 0 0 0 0 0 0 0 (.slice none 0 0) (.slice none 0 0) (.slice none 0 0) 0) 152 (0, 0))) (.cells #[.pointer (some ⟨w2.heap.size, 0, none⟩)] 48 (0, 0))
      rw [World.size_alloc, zs] at this
      exact this
    have f3 : W0.heap[w2.heap.size]? = some (.cells (layC c t1 t2 t3 t4 t5 t6 a2 cp2 0 0 0 0 0 0 0 0 0 0 (.slice none 0 0) (.slice none 0 0) (.slice none 0 0) 0) 152 (0, 0)) := by
      rw [hW0]
      have := heap_alloc_new (w2.setCell ⟨w.heap.size, 6, none⟩ (.slice a2 c.d.cuts.length cp2)) (.cells (layC c t1 t2 t3 t4 t5 t6 a2 cp2 0 0 0 0 0 0 0 0 0 0 (.slice none 0 0) (.slice none 0 0) (.slice none 0 0) 0) 152 (0, 0))
      rw [zs] at this
      exact alloc_old this _
    have hr := HR2.out
    have hlt : ∀ k, (Value.slice a2 c.d.cuts.length cp2).ownBlock = some k → w1.heap.size ≤ k := fun k hk => (HO2.out k hk).1
    have hz1 := HK.out.size
    have hw1z : w.heap.size < w1.heap.size := lt_of_block HB.out
    refine ⟨HK2.out.trans hkz (fun k hlt e => by omega), f1, f2, f3, rfl, rfl, rfl, rfl, ⟨[], en _ _⟩, en _ _, en _ _, rd_keep hr hkz (fun k hk e => by have := hlt k hk; omega), fun k hk => ?_, fun k hk => (nil_own hk).elim, by omega, fun k hk => (nil_own hk).elim, fun k hk => (nil_own hk).elim, fun k hk => (nil_own hk).elim⟩
    have h5 := (HO2.out k hk).2
    exact ⟨by have := hlt k hk; omega, by have := hkz.size; omega, by omega, by simp [Value.ownBlock], by simp [Value.ownBlock], by simp [Value.ownBlock]⟩
  rw [← hW0]
  have NN := hid N0
  have z1 := N0.ne
  obtain ⟨z1, z2, z3, z4, z5, z6⟩ := z1
  have cl := N0.cl
  have cL29 : W0.cell? ⟨w2.heap.size, 29, none⟩ = some (.int .i64 0) := N0.cell rfl
  have fL29 := N0.fr 29
  have cb4 : W0.cell? ⟨w.heap.size, 4, none⟩ = some (.int .u8 c.d.k) := by rw [hx] at N0; exact N0.cellb rfl
  have cb5 : W0.cell? ⟨w.heap.size, 5, none⟩ = some (.int .i64 c.d.n) := by rw [hx] at N0; exact N0.cellb rfl
  have cb6 : W0.cell? ⟨w.heap.size, 6, none⟩ = some (.slice a2 c.d.cuts.length cp2) := by rw [hx] at N0; exact N0.cellb rfl
  have HX := hid hx
  clear hx hW0 N0 b0 b1 b2 b3 b4 b5 b6 b7 b8 b9 b10 b11 b12 b13 b14 b15 bz fz HB HB2 HR2 HO2 HK HK2
  obtain ⟨V1, hV1⟩ : ∃ V : Value, V = .agg #[.int .i64 c.th, .int .i64 c.sl, .int .u8 c.eng, .int .i64 c.bk, .int .u8 c.d.k, .int .i64 c.d.n, .slice a c.d.cuts.length cp, .int .i64 t1, .int .i64 t2, .int .i64 t3, .int .i64 t4, .int .i64 t5, .int .i64 t6, .int .i64 c.lk, .int .i64 c.tr, .int .i64 c.ba] := ⟨_, rfl⟩
  obtain ⟨V2, hV2⟩ : ∃ V : Value, V = .agg #[.int .i64 c.th, .int .i64 c.sl, .int .u8 c.eng, .int .i64 c.bk, .int .u8 c.d.k, .int .i64 c.d.n, .slice a2 c.d.cuts.length cp2, .int .i64 t1, .int .i64 t2, .int .i64 t3, .int .i64 t4, .int .i64 t5, .int .i64 t6, .int .i64 c.lk, .int .i64 c.tr, .int .i64 c.ba] := ⟨_, rfl⟩
  obtain ⟨V3, hV3⟩ : ∃ V : Value, V = .agg (layC c t1 t2 t3 t4 t5 t6 a2 cp2 0 0 0 0 0 0 0 0 0 0 (.slice none 0 0) (.slice none 0 0) (.slice none 0 0) 0) := ⟨_, rfl⟩
  rw [← hV1, ← hV2, ← hV3]
  clear hV1 hV2 hV3
  go_region_held3 (fun w' => w'.cell? ⟨w2.heap.size + 1, 0, none⟩ = some (.pointer (some ⟨w2.heap.size, 0, none⟩)) ∧ w'.cell? ⟨w.heap.size, 4, none⟩ = some (.int .u8 c.d.k) ∧ w'.cell? ⟨w.heap.size, 5, none⟩ = some (.int .i64 c.d.n) ∧ w'.cell? ⟨w.heap.size, 6, none⟩ = some (.slice a2 c.d.cuts.length cp2)) (go_keep)
    (first | (go_at_call 70; (with_reducible refine (vals_ok c.d HC.out.d (rd_keep NN.out.cuts (Keep.refl Nil W0).drew (fun _ _ h => h)) HM.out).mono ?_); rintro e W1 ⟨rfl, hk⟩; have N1 := NN.out.quiet ((Keep.refl Nil W0).drew.trans hk (fun _ _ h => h)); have cl1 := N1.cl; have cL1 : W1.cell? ⟨w2.heap.size, 29, none⟩ = some (.int .i64 0) := N1.cell rfl; have fL1 := N1.fr 29; have d4 : W1.cell? ⟨w.heap.size, 4, none⟩ = some (.int .u8 c.d.k) := (by rw [HX.out] at N1; exact N1.cellb rfl); have d5 : W1.cell? ⟨w.heap.size, 5, none⟩ = some (.int .i64 c.d.n) := (by rw [HX.out] at N1; exact N1.cellb rfl); have d6 : W1.cell? ⟨w.heap.size, 6, none⟩ = some (.slice a2 c.d.cuts.length cp2) := (by rw [HX.out] at N1; exact N1.cellb rfl); have N1h := hid N1; clear hk N1))
  have N2 := N1h.out.setL (i := 29) (.int .i64 (c.d.cnt : Int)) (by decide) (by decide) (by decide)
  have hNH : NH w (W1.setCell ⟨w2.heap.size, 29, none⟩ (.int .i64 (c.d.cnt : Int))) x w.heap.size (w2.heap.size + 1) w2.heap.size [] := by
    have hxx := HX.out
    subst hxx
    exact ⟨none, 0, N2⟩
  generalize W1.setCell ⟨w2.heap.size, 29, none⟩ (.int .i64 (c.d.cnt : Int)) = W at *
  have HNH := hid hNH
  have z0 := HNH.out
  obtain ⟨ha, hc, z0⟩ := z0
  have g7 : W.cell? ⟨w.heap.size, 7, none⟩ = some (.int .i64 t1) := by rw [HX.out] at z0; exact z0.cellb rfl
  have g8 : W.cell? ⟨w.heap.size, 8, none⟩ = some (.int .i64 t2) := by rw [HX.out] at z0; exact z0.cellb rfl
  have g9 : W.cell? ⟨w.heap.size, 9, none⟩ = some (.int .i64 t3) := by rw [HX.out] at z0; exact z0.cellb rfl
  have g10 : W.cell? ⟨w.heap.size, 10, none⟩ = some (.int .i64 t4) := by rw [HX.out] at z0; exact z0.cellb rfl
  have g11 : W.cell? ⟨w.heap.size, 11, none⟩ = some (.int .i64 t5) := by rw [HX.out] at z0; exact z0.cellb rfl
  have g12 : W.cell? ⟨w.heap.size, 12, none⟩ = some (.int .i64 t6) := by rw [HX.out] at z0; exact z0.cellb rfl
  have H1024 := hid (show c.hs.length ≤ 1024 from HC.out.nT)
  have HTW := hid htw
  clear htw z0 hNH N2 N1h cl1 cL1 fL1 d4 d5 d6 cl cL29 fL29 cb4 cb5 cb6 NN ha hc
  go_wp2
  go_loopw [37] (fun i wr => ∃ k : Nat, k ≤ 6 ∧ i = .int .i64 k ∧ NH w wr x w.heap.size (w2.heap.size + 1) w2.heap.size (hts 1 (c.tw.take k))) (fun i _ => 6 - (intOf i).toNat)
  case atStart => exact ⟨0, Nat.zero_le _, rfl, HNH.out⟩
  case round =>
    obtain ⟨k, hk, rfl, hN⟩ := hrel
    have HN := hid hN
    clear hN
    by_cases hlt : k < 6
    · obtain ⟨n, hn⟩ : ∃ n, c.tw[k]? = some n := ⟨_, List.getElem?_eq_getElem (by rw [HC.out.tw6]; exact hlt)⟩
      have hix := fun W => jx_any t1 t2 t3 t4 t5 t6 k n (by rw [← HTW.out]; exact hn) W
      have HTK := hid (hts_take hn)
      have HLE := hid (hts_take_le c.tw (k + 1))
      have dk : decide ((k : Int) < 6) = true := decide_eq_true (by omega)
      have HLT := hid hlt
      have wk : IntKind.i64.wrap ((k : Int) + 1) = (k : Int) + 1 := by rw [IntKind.wrap_i64]; omega
      clear hn hlt hk g7 g8 g9 g10 g11 g12
      go_wp2
      go_loopw [42] (fun j wr => ∃ m : Nat, m ≤ n ∧ j = .int .i64 m ∧ NH w wr x w.heap.size (w2.heap.size + 1) w2.heap.size (hts 1 (c.tw.take k) ++ List.replicate m (k + 1))) (fun j _ => n - (intOf j).toNat)
      case atStart => exact ⟨0, Nat.zero_le _, rfl, by rw [List.replicate_zero, List.append_nil]; exact HN.out⟩
      case round =>
        obtain ⟨m, hm, rfl, hM⟩ := hrel
        have HM2 := hid hM
        clear hM
        by_cases hlm : m < n
        · as_aux_lemma =>
          obtain ⟨l, hl⟩ : ∃ l, l = hts 1 (c.tw.take k) ++ List.replicate m (k + 1) := ⟨_, rfl⟩
          have hll : l.length < 1024 := by
            have h1 := HLE.out
            have h2 := H1024.out
            rw [HTK.out] at h1
            have h3 : c.hs.length = (hts 1 c.tw).length := rfl
            rw [hl]
            rw [List.length_append, List.length_replicate] at h1 ⊢
            omega
          have hml : m ≤ l.length := by rw [hl, List.length_append, List.length_replicate]; omega
          have wm : IntKind.i64.wrap ((m : Int) + 1) = (m : Int) + 1 := by rw [IntKind.wrap_i64]; omega
          clear hml
          obtain ⟨ha, hc, NX⟩ := HM2.out
          rw [← hl] at NX
          have dm : decide ((m : Int) < (n : Int)) = true := decide_eq_true (by omega)
          have cl := NX.cl
          have c27 : wr.cell? ⟨w2.heap.size, 27, none⟩ = some (.slice ha l.length hc) := NX.cell NX.c27 
          have HL := hid hl
          have NXH := hid NX
          have HLM := hid hlm
          have zL : w2.heap.size < wr.heap.size := lt_of_block NX.obj
          have zl : w2.heap.size + 1 < wr.heap.size := lt_of_block NX.lp
          clear hl NX hlm hm
          go_wp2
          go_region_law (refine step_app _ rfl (.tmp 48) (.tmp 51) 32 rfl 3 _ 1 8 Tryz.underlying32 infoIntL rfl (by decide) (.slice ha l.length hc) l.length (nums l) (by simp [Act.eval]) ((row_drew NXH.out.hrow).alloc _) _ 1 [.int .i64 ((k : Int) + 1)] (by simp [Act.eval]) (rd_new _ _ _ _ _ _) (by simp [Value.oneCell']) (by omega) (by unfold maxLen; omega) ?_; intro ha' hc' w3 ho hg hs; obtain ⟨⟨p1, p2, p3⟩, N3⟩ := NH.app (k := k + 1) (NXH.out.quiet ((Keep.refl Nil wr).drew.alloc _)) (by omega) hg ho hs; have N3H := hid N3; clear ho hg hs N3)
          all_goals
            go_wp2
            go_roundw
            case rel => exact ⟨m + 1, by have := HLM.out; omega, by go_num, by rw [List.replicate_succ', ← List.append_assoc, ← HL.out]; exact N3H.out⟩
            case measure => have := HLM.out; simp [intOf]; omega
        · have hmn : m = n := by omega
          subst hmn
          have dm : decide ((m : Int) < (m : Int)) = false := decide_eq_false (by omega)
          clear hlm hm
          go_wp2
          go_roundw
          case rel => exact ⟨k + 1, by have := HLT.out; omega, by go_num, by rw [HTK.out]; exact HM2.out⟩
          case measure => have := HLT.out; simp [intOf]; omega
    · have hk6 : k = 6 := by omega
      subst hk6
      have dk : decide ((6 : Int) < 6) = false := by decide
      rw [show hts 1 (c.tw.take 6) = c.hs by rw [List.take_of_length_le (by rw [HC.out.tw6]; decide)]; rfl] at HN
      obtain ⟨ha, hc, NP0⟩ := NP.begin HN.out
      have HP0 := hid NP0
      clear hlt hk NP0 g7 g8 g9 g10 g11 g12 dk
      have PL := hid (plc_ok HC.out)
      go_wp2
      obtain ⟨ab, hab⟩ : ∃ ab, ab = wr.heap.size := ⟨_, rfl⟩
      obtain ⟨X0, hX0⟩ : ∃ W', W' = wr.alloc (.cells #[.int .i64 0] 3 (0, 0)) := ⟨_, rfl⟩
      rw [← hab, ← hX0] at HP0
      rw [← hX0, ← hab]
      clear hX0 hab HN HNH
      have zz := HP0.out.nea
      obtain ⟨y1, y2, y3, y4⟩ := zz
      as_aux_lemma =>
        have ff := HP0.out.facts (j := 0) (by decide)
        obtain ⟨cl, cp0, fp0, c27, c29, cab⟩ := ff
        have cP : X0.cell? ⟨w2.heap.size, 16, none⟩ = some (.int .i64 0) := cp0
        have fP : X0.frozen? ⟨w2.heap.size, 16, none⟩ = false := fp0
        have cbx : X0.cell? ⟨w.heap.size, 1, none⟩ = some (.int .i64 c.sl) := by have h := HP0.out; rw [HX.out] at h; exact h.bx rfl
        have KD := hid ((Keep.refl Nil X0).drew)
        clear cp0 fp0
        go_region_held3 (fun w' => w'.cell? ⟨w2.heap.size + 1, 0, none⟩ = some (.pointer (some ⟨w2.heap.size, 0, none⟩)) ∧ w'.cell? ⟨w.heap.size, 1, none⟩ = some (.int .i64 c.sl)) (go_keep)
          (first | (go_at_call 71; (with_reducible refine (np_ok (HP0.out.quiet KD.out) 1 (c.sl : Int) 1 (by decide) (by decide) (by decide) (by have h := PL.out.b; omega) (by have h := PL.out.b; omega) (by omega) (by have h := PL.out; have h2 := h.b; have a1 := h.e1; have a2 := h.e2; have a3 := h.e3; have a4 := h.e4; have a5 := h.e5; have a6 := h.e6; have a7 := h.e7; omega) (c.engine : Int) PL.out.e1).mono ?_); rintro e W1 ⟨rfl, hq⟩; obtain ⟨r1, r2, r3, r4, r5, r6⟩ := hq.facts (j := 0) (by decide); have qb : W1.cell? ⟨w.heap.size, 1, none⟩ = some (.int .i64 c.sl) := (by have h := hq; rw [HX.out] at h; exact h.bx rfl); have cP2 : W1.cell? ⟨w2.heap.size, 16, none⟩ = some (.int .i64 0) := r2; have fP2 : W1.frozen? ⟨w2.heap.size, 16, none⟩ = false := r3; have HQ := hid hq; clear hq r2 r3))
        have NXT := HQ.out.store (j := 0) (by decide) (0 : Int)
        obtain ⟨X1, hX⟩ : ∃ W', W' = W1.setCell ⟨w2.heap.size, 16, none⟩ (.int .i64 (0 : Int)) := ⟨_, rfl⟩
        have HP1 : Hid (NP w X1 x w.heap.size (w2.heap.size + 1) ab w2.heap.size (upd (fun _ => 0) 0 (0 : Int)) (c.engine : Int) 1 ha c.hs hc []) := by rw [hX]; exact NXT
        rw [← hX]
        clear cl c27 c29 cab cP fP hX NXT HQ r1 r4 r5 r6 cP2 fP2 HP0 KD cbx qb
        go_wp2
        as_aux_lemma =>
          have ff := HP1.out.facts (j := 1) (by decide)
          obtain ⟨cl, cp0, fp0, c27, c29, cab⟩ := ff
          have cP : X1.cell? ⟨w2.heap.size, 17, none⟩ = some (.int .i64 0) := cp0
          have fP : X1.frozen? ⟨w2.heap.size, 17, none⟩ = false := fp0
          have cb0 : X1.cell? ⟨w.heap.size, 0, none⟩ = some (.int .i64 c.th) := by have h := HP1.out; rw [HX.out] at h; exact h.bx rfl
          have cb1 : X1.cell? ⟨w.heap.size, 1, none⟩ = some (.int .i64 (c.sl : Int)) := by have h := HP1.out; rw [HX.out] at h; exact h.bx rfl
          have cb2 : X1.cell? ⟨w.heap.size, 2, none⟩ = some (.int .u8 c.eng) := by have h := HP1.out; rw [HX.out] at h; exact h.bx rfl
          have cb3 : X1.cell? ⟨w.heap.size, 3, none⟩ = some (.int .i64 (c.bk : Int)) := by have h := HP1.out; rw [HX.out] at h; exact h.bx rfl
          have cb4 : X1.cell? ⟨w.heap.size, 4, none⟩ = some (.int .u8 c.d.k) := by have h := HP1.out; rw [HX.out] at h; exact h.bx rfl
          have cb5 : X1.cell? ⟨w.heap.size, 5, none⟩ = some (.int .i64 c.d.n) := by have h := HP1.out; rw [HX.out] at h; exact h.bx rfl
          have cb6 : X1.cell? ⟨w.heap.size, 6, none⟩ = some (.slice a2 c.d.cuts.length cp2) := by have h := HP1.out; rw [HX.out] at h; exact h.bx rfl
          have cb7 : X1.cell? ⟨w.heap.size, 7, none⟩ = some (.int .i64 (t1 : Int)) := by have h := HP1.out; rw [HX.out] at h; exact h.bx rfl
          have cb8 : X1.cell? ⟨w.heap.size, 8, none⟩ = some (.int .i64 (t2 : Int)) := by have h := HP1.out; rw [HX.out] at h; exact h.bx rfl
          have cb9 : X1.cell? ⟨w.heap.size, 9, none⟩ = some (.int .i64 (t3 : Int)) := by have h := HP1.out; rw [HX.out] at h; exact h.bx rfl
          have cb10 : X1.cell? ⟨w.heap.size, 10, none⟩ = some (.int .i64 (t4 : Int)) := by have h := HP1.out; rw [HX.out] at h; exact h.bx rfl
          have cb11 : X1.cell? ⟨w.heap.size, 11, none⟩ = some (.int .i64 (t5 : Int)) := by have h := HP1.out; rw [HX.out] at h; exact h.bx rfl
          have cb12 : X1.cell? ⟨w.heap.size, 12, none⟩ = some (.int .i64 (t6 : Int)) := by have h := HP1.out; rw [HX.out] at h; exact h.bx rfl
          have cb13 : X1.cell? ⟨w.heap.size, 13, none⟩ = some (.int .i64 (c.lk : Int)) := by have h := HP1.out; rw [HX.out] at h; exact h.bx rfl
          have cb14 : X1.cell? ⟨w.heap.size, 14, none⟩ = some (.int .i64 c.tr) := by have h := HP1.out; rw [HX.out] at h; exact h.bx rfl
          have cb15 : X1.cell? ⟨w.heap.size, 15, none⟩ = some (.int .i64 c.ba) := by have h := HP1.out; rw [HX.out] at h; exact h.bx rfl
          have KD := hid ((Keep.refl Nil X1).drew)
          clear cp0 fp0
          go_region_held3 (fun w' => w'.cell? ⟨w2.heap.size + 1, 0, none⟩ = some (.pointer (some ⟨w2.heap.size, 0, none⟩)) ∧ w'.cell? ⟨w.heap.size, 0, none⟩ = some (.int .i64 c.th) ∧ w'.cell? ⟨w.heap.size, 1, none⟩ = some (.int .i64 (c.sl : Int)) ∧ w'.cell? ⟨w.heap.size, 2, none⟩ = some (.int .u8 c.eng) ∧ w'.cell? ⟨w.heap.size, 3, none⟩ = some (.int .i64 (c.bk : Int)) ∧ w'.cell? ⟨w.heap.size, 4, none⟩ = some (.int .u8 c.d.k) ∧ w'.cell? ⟨w.heap.size, 5, none⟩ = some (.int .i64 c.d.n) ∧ w'.cell? ⟨w.heap.size, 6, none⟩ = some (.slice a2 c.d.cuts.length cp2) ∧ w'.cell? ⟨w.heap.size, 7, none⟩ = some (.int .i64 (t1 : Int)) ∧ w'.cell? ⟨w.heap.size, 8, none⟩ = some (.int .i64 (t2 : Int)) ∧ w'.cell? ⟨w.heap.size, 9, none⟩ = some (.int .i64 (t3 : Int)) ∧ w'.cell? ⟨w.heap.size, 10, none⟩ = some (.int .i64 (t4 : Int)) ∧ w'.cell? ⟨w.heap.size, 11, none⟩ = some (.int .i64 (t5 : Int)) ∧ w'.cell? ⟨w.heap.size, 12, none⟩ = some (.int .i64 (t6 : Int)) ∧ w'.cell? ⟨w.heap.size, 13, none⟩ = some (.int .i64 (c.lk : Int)) ∧ w'.cell? ⟨w.heap.size, 14, none⟩ = some (.int .i64 c.tr) ∧ w'.cell? ⟨w.heap.size, 15, none⟩ = some (.int .i64 c.ba)) (go_keep)
            (first | (go_at_call 72; (with_reducible refine (engine_ok c HC.out t1 t2 t3 t4 t5 t6 a2 cp2).mono ?_); rintro e W1 ⟨rfl, hk⟩; have hq := HP1.out.quiet (KD.out.trans hk (fun _ _ h => h)); obtain ⟨q1, q2, q3, q4, q5, q6⟩ := hq.facts (j := 1) (by decide); have qb0 : W1.cell? ⟨w.heap.size, 0, none⟩ = some (.int .i64 c.th) := (by have h := hq; rw [HX.out] at h; exact h.bx rfl); have qb1 : W1.cell? ⟨w.heap.size, 1, none⟩ = some (.int .i64 (c.sl : Int)) := (by have h := hq; rw [HX.out] at h; exact h.bx rfl); have qb2 : W1.cell? ⟨w.heap.size, 2, none⟩ = some (.int .u8 c.eng) := (by have h := hq; rw [HX.out] at h; exact h.bx rfl); have qb3 : W1.cell? ⟨w.heap.size, 3, none⟩ = some (.int .i64 (c.bk : Int)) := (by have h := hq; rw [HX.out] at h; exact h.bx rfl); have qb4 : W1.cell? ⟨w.heap.size, 4, none⟩ = some (.int .u8 c.d.k) := (by have h := hq; rw [HX.out] at h; exact h.bx rfl); have qb5 : W1.cell? ⟨w.heap.size, 5, none⟩ = some (.int .i64 c.d.n) := (by have h := hq; rw [HX.out] at h; exact h.bx rfl); have qb6 : W1.cell? ⟨w.heap.size, 6, none⟩ = some (.slice a2 c.d.cuts.length cp2) := (by have h := hq; rw [HX.out] at h; exact h.bx rfl); have qb7 : W1.cell? ⟨w.heap.size, 7, none⟩ = some (.int .i64 (t1 : Int)) := (by have h := hq; rw [HX.out] at h; exact h.bx rfl); have qb8 : W1.cell? ⟨w.heap.size, 8, none⟩ = some (.int .i64 (t2 : Int)) := (by have h := hq; rw [HX.out] at h; exact h.bx rfl); have qb9 : W1.cell? ⟨w.heap.size, 9, none⟩ = some (.int .i64 (t3 : Int)) := (by have h := hq; rw [HX.out] at h; exact h.bx rfl); have qb10 : W1.cell? ⟨w.heap.size, 10, none⟩ = some (.int .i64 (t4 : Int)) := (by have h := hq; rw [HX.out] at h; exact h.bx rfl); have qb11 : W1.cell? ⟨w.heap.size, 11, none⟩ = some (.int .i64 (t5 : Int)) := (by have h := hq; rw [HX.out] at h; exact h.bx rfl); have qb12 : W1.cell? ⟨w.heap.size, 12, none⟩ = some (.int .i64 (t6 : Int)) := (by have h := hq; rw [HX.out] at h; exact h.bx rfl); have qb13 : W1.cell? ⟨w.heap.size, 13, none⟩ = some (.int .i64 (c.lk : Int)) := (by have h := hq; rw [HX.out] at h; exact h.bx rfl); have qb14 : W1.cell? ⟨w.heap.size, 14, none⟩ = some (.int .i64 c.tr) := (by have h := hq; rw [HX.out] at h; exact h.bx rfl); have qb15 : W1.cell? ⟨w.heap.size, 15, none⟩ = some (.int .i64 c.ba) := (by have h := hq; rw [HX.out] at h; exact h.bx rfl); have KE := hid hk; have cP1 : W1.cell? ⟨w2.heap.size, 17, none⟩ = some (.int .i64 0) := q2; have fP1 : W1.frozen? ⟨w2.heap.size, 17, none⟩ = false := q3; clear hk hq q2 q3) | (go_at_call 71; (with_reducible refine (np_ok (HP1.out.quiet (KD.out.trans KE.out (fun _ _ h => h))) 2 1 (c.engW : Int) (by decide) (by decide) (by decide) (by have h := PL.out.b; omega) (by have h := PL.out.b; omega) (by omega) (by have h := PL.out; have h2 := h.b; have a1 := h.e1; have a2 := h.e2; have a3 := h.e3; have a4 := h.e4; have a5 := h.e5; have a6 := h.e6; have a7 := h.e7; omega) (c.master : Int) PL.out.e2).mono ?_); rintro e W2 ⟨rfl, hq⟩; obtain ⟨r1, r2, r3, r4, r5, r6⟩ := hq.facts (j := 1) (by decide); have rb0 : W2.cell? ⟨w.heap.size, 0, none⟩ = some (.int .i64 c.th) := (by have h := hq; rw [HX.out] at h; exact h.bx rfl); have rb1 : W2.cell? ⟨w.heap.size, 1, none⟩ = some (.int .i64 (c.sl : Int)) := (by have h := hq; rw [HX.out] at h; exact h.bx rfl); have rb2 : W2.cell? ⟨w.heap.size, 2, none⟩ = some (.int .u8 c.eng) := (by have h := hq; rw [HX.out] at h; exact h.bx rfl); have rb3 : W2.cell? ⟨w.heap.size, 3, none⟩ = some (.int .i64 (c.bk : Int)) := (by have h := hq; rw [HX.out] at h; exact h.bx rfl); have rb4 : W2.cell? ⟨w.heap.size, 4, none⟩ = some (.int .u8 c.d.k) := (by have h := hq; rw [HX.out] at h; exact h.bx rfl); have rb5 : W2.cell? ⟨w.heap.size, 5, none⟩ = some (.int .i64 c.d.n) := (by have h := hq; rw [HX.out] at h; exact h.bx rfl); have rb6 : W2.cell? ⟨w.heap.size, 6, none⟩ = some (.slice a2 c.d.cuts.length cp2) := (by have h := hq; rw [HX.out] at h; exact h.bx rfl); have rb7 : W2.cell? ⟨w.heap.size, 7, none⟩ = some (.int .i64 (t1 : Int)) := (by have h := hq; rw [HX.out] at h; exact h.bx rfl); have rb8 : W2.cell? ⟨w.heap.size, 8, none⟩ = some (.int .i64 (t2 : Int)) := (by have h := hq; rw [HX.out] at h; exact h.bx rfl); have rb9 : W2.cell? ⟨w.heap.size, 9, none⟩ = some (.int .i64 (t3 : Int)) := (by have h := hq; rw [HX.out] at h; exact h.bx rfl); have rb10 : W2.cell? ⟨w.heap.size, 10, none⟩ = some (.int .i64 (t4 : Int)) := (by have h := hq; rw [HX.out] at h; exact h.bx rfl); have rb11 : W2.cell? ⟨w.heap.size, 11, none⟩ = some (.int .i64 (t5 : Int)) := (by have h := hq; rw [HX.out] at h; exact h.bx rfl); have rb12 : W2.cell? ⟨w.heap.size, 12, none⟩ = some (.int .i64 (t6 : Int)) := (by have h := hq; rw [HX.out] at h; exact h.bx rfl); have rb13 : W2.cell? ⟨w.heap.size, 13, none⟩ = some (.int .i64 (c.lk : Int)) := (by have h := hq; rw [HX.out] at h; exact h.bx rfl); have rb14 : W2.cell? ⟨w.heap.size, 14, none⟩ = some (.int .i64 c.tr) := (by have h := hq; rw [HX.out] at h; exact h.bx rfl); have rb15 : W2.cell? ⟨w.heap.size, 15, none⟩ = some (.int .i64 c.ba) := (by have h := hq; rw [HX.out] at h; exact h.bx rfl); have cP2 : W2.cell? ⟨w2.heap.size, 17, none⟩ = some (.int .i64 0) := r2; have fP2 : W2.frozen? ⟨w2.heap.size, 17, none⟩ = false := r3; have HQ := hid hq; clear hq r2 r3))
          have NXT := HQ.out.store (j := 1) (by decide) (c.engine : Int)
          obtain ⟨X2, hX⟩ : ∃ W', W' = W2.setCell ⟨w2.heap.size, 17, none⟩ (.int .i64 (c.engine : Int)) := ⟨_, rfl⟩
          have HP2 : Hid (NP w X2 x w.heap.size (w2.heap.size + 1) ab w2.heap.size (upd (upd (fun _ => 0) 0 (0 : Int)) 1 (c.engine : Int)) (c.master : Int) 2 ha c.hs hc []) := by rw [hX]; exact NXT
          rw [← hX]
          clear cl c27 c29 cab cP fP hX NXT HQ r1 r4 r5 r6 cP2 fP2 HP1 KD cb0 qb0 rb0 cb1 qb1 rb1 cb2 qb2 rb2 cb3 qb3 rb3 cb4 qb4 rb4 cb5 qb5 rb5 cb6 qb6 rb6 cb7 qb7 rb7 cb8 qb8 rb8 cb9 qb9 rb9 cb10 qb10 rb10 cb11 qb11 rb11 cb12 qb12 rb12 cb13 qb13 rb13 cb14 qb14 rb14 cb15 qb15 rb15 KE q1 q4 q5 q6 cP1 fP1
          go_wp2
          as_aux_lemma =>
            have ff := HP2.out.facts (j := 2) (by decide)
            obtain ⟨cl, cp0, fp0, c27, c29, cab⟩ := ff
            have cP : X2.cell? ⟨w2.heap.size, 18, none⟩ = some (.int .i64 0) := cp0
            have fP : X2.frozen? ⟨w2.heap.size, 18, none⟩ = false := fp0
            have KD := hid ((Keep.refl Nil X2).drew)
            clear cp0 fp0
            go_region_held3 (fun w' => w'.cell? ⟨w2.heap.size + 1, 0, none⟩ = some (.pointer (some ⟨w2.heap.size, 0, none⟩))) (go_keep)
              (first | (go_at_call 71; (with_reducible refine (np_ok (HP2.out.quiet KD.out) 3 1 1 (by decide) (by decide) (by decide) (by have h := PL.out.b; omega) (by have h := PL.out.b; omega) (by omega) (by have h := PL.out; have h2 := h.b; have a1 := h.e1; have a2 := h.e2; have a3 := h.e3; have a4 := h.e4; have a5 := h.e5; have a6 := h.e6; have a7 := h.e7; omega) (c.locks : Int) PL.out.e3).mono ?_); rintro e W1 ⟨rfl, hq⟩; obtain ⟨r1, r2, r3, r4, r5, r6⟩ := hq.facts (j := 2) (by decide); have cP2 : W1.cell? ⟨w2.heap.size, 18, none⟩ = some (.int .i64 0) := r2; have fP2 : W1.frozen? ⟨w2.heap.size, 18, none⟩ = false := r3; have HQ := hid hq; clear hq r2 r3))
            have NXT := HQ.out.store (j := 2) (by decide) (c.master : Int)
            obtain ⟨X3, hX⟩ : ∃ W', W' = W1.setCell ⟨w2.heap.size, 18, none⟩ (.int .i64 (c.master : Int)) := ⟨_, rfl⟩
            have HP3 : Hid (NP w X3 x w.heap.size (w2.heap.size + 1) ab w2.heap.size (upd (upd (upd (fun _ => 0) 0 (0 : Int)) 1 (c.engine : Int)) 2 (c.master : Int)) (c.locks : Int) 3 ha c.hs hc []) := by rw [hX]; exact NXT
            rw [← hX]
            clear cl c27 c29 cab cP fP hX NXT HQ r1 r4 r5 r6 cP2 fP2 HP2 KD
            go_wp2
            as_aux_lemma =>
              have ff := HP3.out.facts (j := 3) (by decide)
              obtain ⟨cl, cp0, fp0, c27, c29, cab⟩ := ff
              have cP : X3.cell? ⟨w2.heap.size, 19, none⟩ = some (.int .i64 0) := cp0
              have fP : X3.frozen? ⟨w2.heap.size, 19, none⟩ = false := fp0
              have cbx : X3.cell? ⟨w.heap.size, 13, none⟩ = some (.int .i64 c.lk) := by have h := HP3.out; rw [HX.out] at h; exact h.bx rfl
              have KD := hid ((Keep.refl Nil X3).drew)
              clear cp0 fp0
              go_region_held3 (fun w' => w'.cell? ⟨w2.heap.size + 1, 0, none⟩ = some (.pointer (some ⟨w2.heap.size, 0, none⟩)) ∧ w'.cell? ⟨w.heap.size, 13, none⟩ = some (.int .i64 c.lk)) (go_keep)
                (first | (go_at_call 71; (with_reducible refine (np_ok (HP3.out.quiet KD.out) 4 (c.lk : Int) 3 (by decide) (by decide) (by decide) (by have h := PL.out.b; omega) (by have h := PL.out.b; omega) (by omega) (by have h := PL.out; have h2 := h.b; have a1 := h.e1; have a2 := h.e2; have a3 := h.e3; have a4 := h.e4; have a5 := h.e5; have a6 := h.e6; have a7 := h.e7; omega) (c.descs : Int) PL.out.e4).mono ?_); rintro e W1 ⟨rfl, hq⟩; obtain ⟨r1, r2, r3, r4, r5, r6⟩ := hq.facts (j := 3) (by decide); have qb : W1.cell? ⟨w.heap.size, 13, none⟩ = some (.int .i64 c.lk) := (by have h := hq; rw [HX.out] at h; exact h.bx rfl); have cP2 : W1.cell? ⟨w2.heap.size, 19, none⟩ = some (.int .i64 0) := r2; have fP2 : W1.frozen? ⟨w2.heap.size, 19, none⟩ = false := r3; have HQ := hid hq; clear hq r2 r3))
              have NXT := HQ.out.store (j := 3) (by decide) (c.locks : Int)
              obtain ⟨X4, hX⟩ : ∃ W', W' = W1.setCell ⟨w2.heap.size, 19, none⟩ (.int .i64 (c.locks : Int)) := ⟨_, rfl⟩
              have HP4 : Hid (NP w X4 x w.heap.size (w2.heap.size + 1) ab w2.heap.size (upd (upd (upd (upd (fun _ => 0) 0 (0 : Int)) 1 (c.engine : Int)) 2 (c.master : Int)) 3 (c.locks : Int)) (c.descs : Int) 4 ha c.hs hc []) := by rw [hX]; exact NXT
              rw [← hX]
              clear cl c27 c29 cab cP fP hX NXT HQ r1 r4 r5 r6 cP2 fP2 HP3 KD cbx qb
              go_wp2
              as_aux_lemma =>
                have ff := HP4.out.facts (j := 4) (by decide)
                obtain ⟨cl, cp0, fp0, c27, c29, cab⟩ := ff
                have cP : X4.cell? ⟨w2.heap.size, 20, none⟩ = some (.int .i64 0) := cp0
                have fP : X4.frozen? ⟨w2.heap.size, 20, none⟩ = false := fp0
                have cbx : X4.cell? ⟨w.heap.size, 13, none⟩ = some (.int .i64 c.lk) := by have h := HP4.out; rw [HX.out] at h; exact h.bx rfl
                have KD := hid ((Keep.refl Nil X4).drew)
                clear cp0 fp0
                go_region_held3 (fun w' => w'.cell? ⟨w2.heap.size + 1, 0, none⟩ = some (.pointer (some ⟨w2.heap.size, 0, none⟩)) ∧ w'.cell? ⟨w.heap.size, 13, none⟩ = some (.int .i64 c.lk)) (go_keep)
                  (first | (go_at_call 71; (with_reducible refine (np_ok (HP4.out.quiet KD.out) 5 (c.lk : Int) 1 (by decide) (by decide) (by decide) (by have h := PL.out.b; omega) (by have h := PL.out.b; omega) (by omega) (by have h := PL.out; have h2 := h.b; have a1 := h.e1; have a2 := h.e2; have a3 := h.e3; have a4 := h.e4; have a5 := h.e5; have a6 := h.e6; have a7 := h.e7; omega) (c.pools : Int) PL.out.e5).mono ?_); rintro e W1 ⟨rfl, hq⟩; obtain ⟨r1, r2, r3, r4, r5, r6⟩ := hq.facts (j := 4) (by decide); have qb : W1.cell? ⟨w.heap.size, 13, none⟩ = some (.int .i64 c.lk) := (by have h := hq; rw [HX.out] at h; exact h.bx rfl); have cP2 : W1.cell? ⟨w2.heap.size, 20, none⟩ = some (.int .i64 0) := r2; have fP2 : W1.frozen? ⟨w2.heap.size, 20, none⟩ = false := r3; have HQ := hid hq; clear hq r2 r3))
                have NXT := HQ.out.store (j := 4) (by decide) (c.descs : Int)
                obtain ⟨X5, hX⟩ : ∃ W', W' = W1.setCell ⟨w2.heap.size, 20, none⟩ (.int .i64 (c.descs : Int)) := ⟨_, rfl⟩
                have HP5 : Hid (NP w X5 x w.heap.size (w2.heap.size + 1) ab w2.heap.size (upd (upd (upd (upd (upd (fun _ => 0) 0 (0 : Int)) 1 (c.engine : Int)) 2 (c.master : Int)) 3 (c.locks : Int)) 4 (c.descs : Int)) (c.pools : Int) 5 ha c.hs hc []) := by rw [hX]; exact NXT
                rw [← hX]
                clear cl c27 c29 cab cP fP hX NXT HQ r1 r4 r5 r6 cP2 fP2 HP4 KD cbx qb
                go_wp2
                as_aux_lemma =>
                  have ff := HP5.out.facts (j := 5) (by decide)
                  obtain ⟨cl, cp0, fp0, c27, c29, cab⟩ := ff
                  have cP : X5.cell? ⟨w2.heap.size, 21, none⟩ = some (.int .i64 0) := cp0
                  have fP : X5.frozen? ⟨w2.heap.size, 21, none⟩ = false := fp0
                  have KD := hid ((Keep.refl Nil X5).drew)
                  clear cp0 fp0
                  go_region_held3 (fun w' => w'.cell? ⟨w2.heap.size + 1, 0, none⟩ = some (.pointer (some ⟨w2.heap.size, 0, none⟩))) (go_keep)
                    (first | (go_at_call 71; (with_reducible refine (np_ok (HP5.out.quiet KD.out) 6 6 1 (by decide) (by decide) (by decide) (by have h := PL.out.b; omega) (by have h := PL.out.b; omega) (by omega) (by have h := PL.out; have h2 := h.b; have a1 := h.e1; have a2 := h.e2; have a3 := h.e3; have a4 := h.e4; have a5 := h.e5; have a6 := h.e6; have a7 := h.e7; omega) (c.links : Int) PL.out.e6).mono ?_); rintro e W1 ⟨rfl, hq⟩; obtain ⟨r1, r2, r3, r4, r5, r6⟩ := hq.facts (j := 5) (by decide); have cP2 : W1.cell? ⟨w2.heap.size, 21, none⟩ = some (.int .i64 0) := r2; have fP2 : W1.frozen? ⟨w2.heap.size, 21, none⟩ = false := r3; have HQ := hid hq; clear hq r2 r3))
                  have NXT := HQ.out.store (j := 5) (by decide) (c.pools : Int)
                  obtain ⟨X6, hX⟩ : ∃ W', W' = W1.setCell ⟨w2.heap.size, 21, none⟩ (.int .i64 (c.pools : Int)) := ⟨_, rfl⟩
                  have HP6 : Hid (NP w X6 x w.heap.size (w2.heap.size + 1) ab w2.heap.size (upd (upd (upd (upd (upd (upd (fun _ => 0) 0 (0 : Int)) 1 (c.engine : Int)) 2 (c.master : Int)) 3 (c.locks : Int)) 4 (c.descs : Int)) 5 (c.pools : Int)) (c.links : Int) 6 ha c.hs hc []) := by rw [hX]; exact NXT
                  rw [← hX]
                  clear cl c27 c29 cab cP fP hX NXT HQ r1 r4 r5 r6 cP2 fP2 HP5 KD
                  go_wp2
                  as_aux_lemma =>
                    have ff := HP6.out.facts (j := 6) (by decide)
                    obtain ⟨cl, cp0, fp0, c27, c29, cab⟩ := ff
                    have cP : X6.cell? ⟨w2.heap.size, 22, none⟩ = some (.int .i64 0) := cp0
                    have fP : X6.frozen? ⟨w2.heap.size, 22, none⟩ = false := fp0
                    have KD := hid ((Keep.refl Nil X6).drew)
                    clear cp0 fp0
                    go_region_held3 (fun w' => w'.cell? ⟨w2.heap.size + 1, 0, none⟩ = some (.pointer (some ⟨w2.heap.size, 0, none⟩)) ∧ w'.cell? ⟨w2.heap.size, 27, none⟩ = some (.slice ha c.hs.length hc)) (go_keep)
                      (first | (go_at_call 71; (with_reducible refine (np_ok (HP6.out.quiet KD.out) 7 (c.hs.length : Int) 1 (by decide) (by decide) (by decide) (by have h := PL.out.b; omega) (by have h := PL.out.b; omega) (by omega) (by have h := PL.out; have h2 := h.b; have a1 := h.e1; have a2 := h.e2; have a3 := h.e3; have a4 := h.e4; have a5 := h.e5; have a6 := h.e6; have a7 := h.e7; omega) (c.heads : Int) PL.out.e7).mono ?_); rintro e W1 ⟨rfl, hq⟩; obtain ⟨r1, r2, r3, r4, r5, r6⟩ := hq.facts (j := 6) (by decide); have s27 : (W1.setCell ⟨w2.heap.size, 22, none⟩ (.int .i64 (c.links : Int))).cell? ⟨w2.heap.size, 27, none⟩ = some (.slice ha c.hs.length hc) := ((hq.store (j := 6) (by decide) (c.links : Int)).facts (j := 6) (by decide)).2.2.2.1; have cP2 : W1.cell? ⟨w2.heap.size, 22, none⟩ = some (.int .i64 0) := r2; have fP2 : W1.frozen? ⟨w2.heap.size, 22, none⟩ = false := r3; have HQ := hid hq; clear hq r2 r3))
                    have NXT := HQ.out.store (j := 6) (by decide) (c.links : Int)
                    obtain ⟨X7, hX⟩ : ∃ W', W' = W1.setCell ⟨w2.heap.size, 22, none⟩ (.int .i64 (c.links : Int)) := ⟨_, rfl⟩
                    have HP7 : Hid (NP w X7 x w.heap.size (w2.heap.size + 1) ab w2.heap.size (upd (upd (upd (upd (upd (upd (upd (fun _ => 0) 0 (0 : Int)) 1 (c.engine : Int)) 2 (c.master : Int)) 3 (c.locks : Int)) 4 (c.descs : Int)) 5 (c.pools : Int)) 6 (c.links : Int)) (c.heads : Int) 7 ha c.hs hc []) := by rw [hX]; exact NXT
                    rw [← hX]
                    clear cl c27 c29 cab cP fP hX NXT HQ r1 r4 r5 r6 cP2 fP2 HP6 KD s27
                    go_wp2
                    as_aux_lemma =>
                      have ff := HP7.out.facts (j := 7) (by decide)
                      obtain ⟨cl, cp0, fp0, c27, c29, cab⟩ := ff
                      have cP : X7.cell? ⟨w2.heap.size, 23, none⟩ = some (.int .i64 0) := cp0
                      have fP : X7.frozen? ⟨w2.heap.size, 23, none⟩ = false := fp0
                      have c29' : X7.cell? ⟨w2.heap.size, 29, none⟩ = some (.int .i64 c.d.cnt) := by rw [HX.out] at c29; exact c29
                      have KD := hid ((Keep.refl Nil X7).drew)
                      clear cp0 fp0 c29
                      go_region_held3 (fun w' => w'.cell? ⟨w2.heap.size + 1, 0, none⟩ = some (.pointer (some ⟨w2.heap.size, 0, none⟩)) ∧ w'.cell? ⟨w2.heap.size, 29, none⟩ = some (.int .i64 c.d.cnt)) (go_keep)
                        (first | (go_at_call 71; (with_reducible refine (np_ok (HP7.out.quiet KD.out) 8 (c.d.cnt : Int) 7 (by decide) (by decide) (by decide) (by have h := PL.out.b; omega) (by have h := PL.out.b; omega) (by omega) (by have h := PL.out; have h2 := h.b; have a1 := h.e1; have a2 := h.e2; have a3 := h.e3; have a4 := h.e4; have a5 := h.e5; have a6 := h.e6; have a7 := h.e7; omega) (c.towers : Int) PL.out.e8).mono ?_); rintro e W1 ⟨rfl, hq⟩; obtain ⟨r1, r2, r3, r4, r5, r6⟩ := hq.facts (j := 7) (by decide); have q5' : W1.cell? ⟨w2.heap.size, 29, none⟩ = some (.int .i64 c.d.cnt) := (by rw [HX.out] at r5; exact r5); have s29 : (W1.setCell ⟨w2.heap.size, 23, none⟩ (.int .i64 (c.heads : Int))).cell? ⟨w2.heap.size, 29, none⟩ = some (.int .i64 c.d.cnt) := (by have h := ((hq.store (j := 7) (by decide) (c.heads : Int)).facts (j := 7) (by decide)).2.2.2.2.1; rw [HX.out] at h; exact h); have cP2 : W1.cell? ⟨w2.heap.size, 23, none⟩ = some (.int .i64 0) := r2; have fP2 : W1.frozen? ⟨w2.heap.size, 23, none⟩ = false := r3; have HQ := hid hq; clear hq r2 r3 r5))
                      have NXT := HQ.out.store (j := 7) (by decide) (c.heads : Int)
                      obtain ⟨X8, hX⟩ : ∃ W', W' = W1.setCell ⟨w2.heap.size, 23, none⟩ (.int .i64 (c.heads : Int)) := ⟨_, rfl⟩
                      have HP8 : Hid (NP w X8 x w.heap.size (w2.heap.size + 1) ab w2.heap.size (upd (upd (upd (upd (upd (upd (upd (upd (fun _ => 0) 0 (0 : Int)) 1 (c.engine : Int)) 2 (c.master : Int)) 3 (c.locks : Int)) 4 (c.descs : Int)) 5 (c.pools : Int)) 6 (c.links : Int)) 7 (c.heads : Int)) (c.towers : Int) 8 ha c.hs hc []) := by rw [hX]; exact NXT
                      rw [← hX]
                      clear cl c27 cab cP fP hX NXT HQ r1 r4 r6 cP2 fP2 HP7 KD c29' q5' s29
                      as_aux_lemma =>
                        have ff := HP8.out.facts (j := 8) (by decide)
                        obtain ⟨cl, cp0, fp0, c27, c29, cab⟩ := ff
                        have cP : X8.cell? ⟨w2.heap.size, 24, none⟩ = some (.int .i64 0) := cp0
                        have fP : X8.frozen? ⟨w2.heap.size, 24, none⟩ = false := fp0
                        have HP9 := hid (HP8.out.store (j := 8) (by decide) (c.towers : Int))
                        clear cp0 fp0 HP8 c29
                        go_wp2
                        go_loopw [133] (fun i wr => ∃ k : Nat, k ≤ c.hs.length ∧ i = .int .i64 k ∧ NP w wr x w.heap.size (w2.heap.size + 1) ab w2.heap.size (upd (upd (upd (upd (upd (upd (upd (upd (upd (fun _ => 0) 0 (0 : Int)) 1 (c.engine : Int)) 2 (c.master : Int)) 3 (c.locks : Int)) 4 (c.descs : Int)) 5 (c.pools : Int)) 6 (c.links : Int)) 7 (c.heads : Int)) 8 (c.towers : Int)) ((c.towers + towW (c.hs.take k) : Nat) : Int) 8 ha c.hs hc (tows c.towers (c.hs.take k))) (fun i _ => c.hs.length - (intOf i).toNat)
                        case atStart => exact ⟨0, Nat.zero_le _, rfl, HP9.out⟩
                        case round =>
                          obtain ⟨k, hk, rfl, hN⟩ := hrel
                          have HN := hid hN
                          clear hN cl c27 cab cP fP HP9
                          by_cases hlt : k < c.hs.length
                          · obtain ⟨y, hy⟩ : ∃ y, c.hs[k]? = some y := ⟨_, List.getElem?_eq_getElem hlt⟩
                            obtain ⟨ga, gc, ta, tc, NX, a2⟩ := HN.out.ex
                            obtain ⟨bb, off, cc, hv, hcell⟩ := Rd.cell (row_rd NX.hrow) (by omega)
                            simp only [Value.slice.injEq] at hv
                            obtain ⟨hv1, -, hv2⟩ := hv
                            have cx := hcell k _ (nums_at hy)
                            have HT := hid (tows_take (a := c.towers) hy)
                            have HW := hid (towW_take hy)
                            obtain ⟨x1, x6⟩ := HC.out.hs y (List.mem_of_getElem? hy)
                            obtain ⟨q, hq⟩ : ∃ q, q = c.towers + towW (c.hs.take k) := ⟨_, rfl⟩
                            obtain ⟨ts, hts⟩ : ∃ ts, ts = tows c.towers (c.hs.take k) := ⟨_, rfl⟩
                            have hql : q ≤ 100000 := by
                              have h1 := PL.out
                              have h2 := h1.b
                              have a1 := h1.e1
                              have a2 := h1.e2
                              have a3 := h1.e3
                              have a4 := h1.e4
                              have a5 := h1.e5
                              have a6 := h1.e6
                              have a7 := h1.e7
                              have a8 := h1.e8
                              have h3 := towW_le (l := c.hs.take k) (m := 6) (fun z hz => (HC.out.hs z (List.mem_of_mem_take hz)).2)
                              rw [List.length_take] at h3
                              omega
                            have htl : ts.length = k := by rw [hts, tows_len, List.length_take]; omega
                            rw [← hq, ← hts] at HN
                            rw [← hts] at NX a2
                            have hk1024 := PL.out.b.2.2.2.1
                            have cl := NX.cl
                            have cab := HN.out.facts (j := 8) (by decide)
                            have cab : wr.cell? ⟨ab, 0, none⟩ = some (.int .i64 (q : Int)) := cab.2.2.2.2.2
                            have c28 : wr.cell? ⟨w2.heap.size, 28, none⟩ = some (.slice ta ts.length tc) := NX.cell NX.c28
                            have zL : w2.heap.size < wr.heap.size := lt_of_block NX.obj
                            have zl : w2.heap.size + 1 < wr.heap.size := lt_of_block NX.lp
                            have za : ab < wr.heap.size := lt_of_block HN.out.atc
                            have dk : decide ((k : Int) < (c.hs.length : Int)) = true := decide_eq_true (by omega)
                            have k0 : (0 : Int) ≤ (k : Int) := by omega
                            have k1 : (k : Int) < (c.hs.length : Int) := by omega
                            have wk : IntKind.i64.wrap ((k : Int) + 1) = (k : Int) + 1 := by rw [IntKind.wrap_i64]; omega
                            have w5 : IntKind.i64.wrap (5 + (y : Int)) = 5 + (y : Int) := by rw [IntKind.wrap_i64]; omega
                            have wq : IntKind.i64.wrap ((q : Int) + (5 + (y : Int))) = (q : Int) + (5 + (y : Int)) := by rw [IntKind.wrap_i64]; omega
                            have NXH := hid NX
                            have A2 := hid a2
                            have HQ := hid hq
                            have HTS := hid hts
                            have HLT := hid hlt
                            have HY := hid hy
                            have HCL := hid hcell
                            have hsl : ts.length + 1 ≤ 2000 := by omega
                            clear htl
                            clear NX a2 hq hts hcell hy x1 x6 hk
                            subst hv1 hv2
                            go_wp2
                            go_region_law (refine step_app _ rfl (.tmp 141) (.tmp 143) 32 rfl 3 _ 1 8 Tryz.underlying32 infoIntL rfl (by decide) (.slice ta ts.length tc) ts.length (nums ts) (by simp [Act.eval]) ((row_drew NXH.out.trow).alloc _) _ 1 [.int .i64 (q : Int)] (by simp [Act.eval]) (rd_new _ _ _ _ _ _) (by simp [Value.oneCell']) (by omega) (by unfold maxLen; omega) ?_; intro ta' tc' w3 ho hg hs; obtain ⟨⟨p1, p2, p3, p4⟩, N3⟩ := NP.appt (k := q) (HN.out.quiet ((Keep.refl Nil wr).drew.alloc _)) (NXH.out.quiet ((Keep.refl Nil wr).drew.alloc _)) A2.out rfl hg ho hs; have N3H := hid N3; clear ho hg hs N3)
                            all_goals
                              obtain ⟨X5, hX⟩ : ∃ W', W' = w3.setCell ⟨w2.heap.size, 28, none⟩ (.slice ta' (ts.length + 1) tc') := ⟨_, rfl⟩
                              rw [← hX]
                              rw [← hX] at N3H
                              have ff := N3H.out.facts (j := 8) (by decide)
                              have dab : X5.cell? ⟨ab, 0, none⟩ = some (.int .i64 (q : Int)) := ff.2.2.2.2.2
                              have fab : X5.frozen? ⟨ab, 0, none⟩ = false := free_of N3H.out.atc 0
                              have NS5 := hid (N3H.out.stat ((q : Int) + (5 + (y : Int))))
                              clear hX ff p1 p2 p3 p4 cl cab c28 zL zl za
                              go_wp2
                              go_roundw
                              case rel => exact ⟨k + 1, by have := HLT.out; omega, by go_num, by rw [HT.out, HW.out, ← HTS.out, show ((c.towers + (towW (c.hs.take k) + (5 + y)) : Nat) : Int) = (q : Int) + (5 + (y : Int)) by have := HQ.out; omega, ← HQ.out]; exact NS5.out⟩
                              case measure => have := HLT.out; simp [intOf]; omega
                          · have hkn : k = c.hs.length := by omega
                            subst hkn
                            have ff := HN.out.facts (j := 9) (by decide)
                            obtain ⟨cl, cp0, fp0, c27, c29, cab⟩ := ff
                            have cP : wr.cell? ⟨w2.heap.size, 25, none⟩ = some (.int .i64 0) := cp0
                            have fP : wr.frozen? ⟨w2.heap.size, 25, none⟩ = false := fp0
                            have HF := hid (HN.out.store (j := 9) (by decide) (c.words : Int))
                            have hwd : ((c.towers + towW (c.hs.take c.hs.length) : Nat) : Int) = (c.words : Int) := by rw [List.take_length]; rfl
                            rw [hwd] at cab
                            have dk : decide ((c.hs.length : Int) < (c.hs.length : Int)) = false := decide_eq_false (by omega)
                            clear cp0 fp0 c29 hk hlt hwd
                            go_wp2
                            go_ret2
                            obtain ⟨ga, gc, ta, tc, NX, a2⟩ := HF.out.ex
                            have hxx := HX.out
                            have e1 := HTW.out
                            subst hxx
                            exact NX.done e1 rfl (by rw [List.take_length]) rfl rfl rfl rfl rfl rfl rfl rfl rfl rfl

end
end Go.Proofs.YtjghenomeindcaaGreat
