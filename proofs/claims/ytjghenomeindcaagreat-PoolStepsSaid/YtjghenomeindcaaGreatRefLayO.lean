
/- leapfrogref09: a layout opened; Initial. -/
import Derived.Test.YtjghenomeindcaaGreatRefWhat
import Derived.StillTailTactics
import Derived.Test.YtjghenomeindcaaGreatLayWord
import Derived.Laws.StructEq
import Derived.Test.YtjghenomeindcaaGreatKit
set_option linter.unusedVariables false
set_option linter.unusedSimpArgs false
namespace Go.Proofs.YtjghenomeindcaaGreat
open Go.RowKit Go.Lf
section
variable {w w' : World} {l : Nat} {c : Cfg} {G : Nat → Prop}
theorem RLAt.lt (h : RLAt w l c G) (k : Nat) (hk : G k) : k < w.heap.size := by
  obtain ⟨t1, t2, t3, t4, t5, t6, ac, cc, ha, hc, a, cp, htw, h1, h2, h3, h4⟩ := h.ex
  rcases (h4 k).1 hk with rfl | e | e | e
  · exact lt_of_block h1.head
  · exact row_lt h1.row k e
  · exact row_lt h2 k e
  · exact row_lt h3 k e
theorem RLAt.keep (h : RLAt w l c G) {S : Nat → Prop} (hk : Keep S w w') (hn : ∀ k, G k → ¬ S k) : RLAt w' l c G := by
  obtain ⟨t1, t2, t3, t4, t5, t6, ac, cc, ha, hc, a, cp, htw, h1, h2, h3, h4⟩ := h.ex
  exact ⟨t1, t2, t3, t4, t5, t6, ac, cc, ha, hc, a, cp, htw, h1.keep hk (hn l ((h4 l).2 (.inl rfl))) (fun k e => hn k ((h4 k).2 (.inr (.inl e)))), row_keep h2 hk (fun k e => hn k ((h4 k).2 (.inr (.inr (.inl e))))), row_keep h3 hk (fun k e => hn k ((h4 k).2 (.inr (.inr (.inr e))))), h4⟩
theorem RLAt.quiet (h : RLAt w l c G) (hk : Keep Nil w w') : RLAt w' l c G := h.keep hk (fun _ _ h => h)
theorem RLAt.has (h : RLAt w l c G) : G l := by
  obtain ⟨t1, t2, t3, t4, t5, t6, ac, cc, ha, hc, a, cp, htw, h1, h2, h3, h4⟩ := h.ex
  exact (h4 l).2 (.inl rfl)
/-- The cells of its head. -/
structure RLC (w : World) (l : Nat) (c : Cfg) : Prop where
  c1 : w.cell? ⟨l, 1, none⟩ = some (.int .i64 c.sl)
  c2 : w.cell? ⟨l, 2, none⟩ = some (.int .u8 c.eng)
  c3 : w.cell? ⟨l, 3, none⟩ = some (.int .i64 c.bk)
  c13 : w.cell? ⟨l, 13, none⟩ = some (.int .i64 c.lk)
  c16 : w.cell? ⟨l, 16, none⟩ = some (.int .i64 0)
  c17 : w.cell? ⟨l, 17, none⟩ = some (.int .i64 c.engine)
  c18 : w.cell? ⟨l, 18, none⟩ = some (.int .i64 c.master)
  c19 : w.cell? ⟨l, 19, none⟩ = some (.int .i64 c.locks)
  c20 : w.cell? ⟨l, 20, none⟩ = some (.int .i64 c.descs)
  c21 : w.cell? ⟨l, 21, none⟩ = some (.int .i64 c.pools)
  c22 : w.cell? ⟨l, 22, none⟩ = some (.int .i64 c.links)
  c23 : w.cell? ⟨l, 23, none⟩ = some (.int .i64 c.heads)
  c24 : w.cell? ⟨l, 24, none⟩ = some (.int .i64 c.towers)
  c25 : w.cell? ⟨l, 25, none⟩ = some (.int .i64 c.words)
  c26 : ∃ ha hc, w.cell? ⟨l, 26, none⟩ = some (.slice ha c.nT hc) ∧ Rd w 1 (.slice ha c.nT hc) c.nT (intsV c.hs)
  c27 : ∃ a cp, w.cell? ⟨l, 27, none⟩ = some (.slice a c.words cp) ∧ Rd w 3 (.slice a c.words cp) c.words (rplCells (whatR c))
  lt : l < w.heap.size
theorem cfL_len (c : Cfg) (t1 t2 t3 t4 t5 t6 : Nat) (v : Value) : (cfL c t1 t2 t3 t4 t5 t6 v).length = 16 := rfl
theorem RLAt.cells (h : RLAt w l c G) : RLC w l c := by
  obtain ⟨t1, t2, t3, t4, t5, t6, ac, cc, ha, hc, a, cp, htw, h1, h2, h3, h4⟩ := h.ex
  have hp : ∀ j, j < 10 → w.cell? ⟨l, 16 + j, none⟩ = some (.int .i64 (pP c 10 j)) := fun j hj => by
    rw [cell_of h1.head]; exact rlCells_at _ (rpr_at (cfL_len ..) _ _ hj)
  have hq : ∀ (j : Nat) (v : Value), (cfL c t1 t2 t3 t4 t5 t6 (.slice ac c.d.cuts.length cc))[j]? = some v → w.cell? ⟨l, j, none⟩ = some v := fun j v hv => by
    rw [cell_of h1.head]
    refine rlCells_at _ ?_
    have hlt := (List.getElem?_eq_some_iff.1 hv).1
    unfold rpr
    rw [List.append_assoc, List.getElem?_append_left hlt]
    exact hv
  have hlen : (whatR c).length = c.words := whatR_len c
  refine ⟨hq 1 _ rfl, hq 2 _ rfl, hq 3 _ rfl, hq 13 _ rfl, hp 0 (by decide), hp 1 (by decide), hp 2 (by decide), hp 3 (by decide), hp 4 (by decide), hp 5 (by decide), hp 6 (by decide), hp 7 (by decide), hp 8 (by decide), hp 9 (by decide), ⟨ha, hc, ?_, row_rd h2⟩, ⟨a, cp, ?_, ?_⟩, lt_of_block h1.head⟩
  · rw [cell_of h1.head]; exact rlCells_at _ (rpr_hv (cfL_len ..) _ _)
  · rw [cell_of h1.head, rlCells_last (rpr_len (cfL_len ..) _ _), hlen]
  · have := row_rd h1.row
    rw [hlen] at this
    exact this
theorem intsV_at {l : List Nat} {i x : Nat} (h : l[i]? = some x) : (intsV l)[i]? = some (.int .i64 (x : Int)) := by simp [intsV, h]
/-- The words of a new store, as the reference makes them. -/
theorem initR_len (c : Cfg) (k : Nat) : (c.initR k).length = c.words := by
  induction k with
  | zero => exact fill_len _ _
  | succ k ih => rw [Cfg.initR]; simp [ih]
theorem initR_zero (c : Cfg) : madeCells #[.int .u64 0] (c.words * 1) = (u64n (c.initR 0)).toArray := initP_zero c
set_option maxRecDepth 100000 in
set_option maxHeartbeats 4000000 in
theorem rinit_ok (h : RLAt w l c G) (hok : c.ok) : Calls Tryz.prog 32 #[.pointer (some ⟨l, 0, none⟩)] w (InitTo w c) := by
  have hw := rl_words hok
  have HC := hid h.cells
  have HOK := hid hok
  obtain ⟨a, cp, c27, -⟩ := h.cells.c27
  obtain ⟨ha, hc, c26, hr⟩ := h.cells.c26
  have hlw : l < w.heap.size := h.cells.lt
  have HH := hid h
  have HR := hid hr
  clear h hok hr
  go_enter Tryz.func32, Tryz.ntmps32
  go_wp2_with (at_make; refine wpList_mk _ rfl _ _ 37 rfl 54 _ 1 8 Tryz.underlying37 infoU64I _ _ (c.words : Int) rfl rfl ?p0 ?p1 ?p2 ?_)
  case p0 => omega
  case p1 => omega
  case p2 => omega
  intro w1 hh hk hz
  have hrow : w1.heap[w.heap.size]? = some (.cells (u64n (c.initR 0)).toArray 54 (0, 0)) := by
    rw [hh, ← initR_zero]; simp
  have c26' : w1.cell? ⟨l, 26, none⟩ = some (.slice ha c.nT hc) := hk.cell c26 (fun h => h)
  have HROW := hid hrow
  have HK := hid hk
  have HLW := hid hlw
  clear hh hk hz hrow c26 c27 hlw
  go_wp2
  go_loopw [4] (fun tv wr => ∃ j : Nat, j ≤ c.nT ∧ tv = .int .i64 j ∧ wr.heap[w.heap.size]? = some (.cells (u64n (c.initR (c.nT - j))).toArray 54 (0, 0)) ∧ Keep Nil w wr) (fun tv _ => (intOf tv).toNat)
  case atStart => exact ⟨c.nT, Nat.le_refl _, rfl, by rw [Nat.sub_self]; exact HROW.out, HK.out⟩
  case round =>
    obtain ⟨j, hj, rfl, hr, hkk⟩ := hrel
    have HQ := hid hr
    have HKK := hid hkk
    clear hr hkk
    cases j with
    | zero =>
      go_wp2
      go_ret
      refine ⟨rfl, ?_, HKK.out⟩
      rw [HQ.out, Nat.sub_zero, c.initR_all HOK.out]
    | succ m =>
      have hmn : m < c.nT := by omega
      obtain ⟨x, hx⟩ : ∃ x, c.hs[m]? = some x := ⟨_, List.getElem?_eq_getElem hmn⟩
      obtain ⟨x1, x6⟩ := HOK.out.hs x (List.mem_of_getElem? hx)
      obtain ⟨z, rfl⟩ : ∃ z, x = z + 1 := ⟨x - 1, by omega⟩
      have e1 := c.le1
      have e2 := c.le2
      have e3 := c.le3
      have hcl := (HH.out.quiet HKK.out).cells
      have q21 := hcl.c21
      have q22 := hcl.c22
      obtain ⟨ha', hc', q26, hrd'⟩ := hcl.c26
      obtain ⟨bb, off, cc, hv, hcell⟩ := Rd.cell hrd' (by omega)
      simp only [Value.slice.injEq] at hv
      obtain ⟨rfl, -, rfl⟩ := hv
      have cx := hcell m _ (intsV_at hx)
      obtain ⟨y, hy⟩ : ∃ y, (c.initR (c.nT - (m + 1)))[c.pools + z]? = some y := ⟨_, List.getElem?_eq_getElem (by rw [initR_len]; omega)⟩
      have cy : wr.cell? ⟨w.heap.size, c.pools + z, none⟩ = some (.int .u64 y) := by rw [cell_of HQ.out]; simpa using u64n_at hy
      have HI := hid (show c.initR (c.nT - m) = ((c.initR (c.nT - (m + 1))).set (c.links + m) y).set (c.pools + z) (m + 1) by
        have h1 : c.nT - m = (c.nT - (m + 1)) + 1 := by omega
        rw [h1, Cfg.initR]
        have h2 : c.nT - 1 - (c.nT - (m + 1)) = m := by omega
        simp only [h2, hx, Option.getD_some]
        have h3 : c.pools + (z + 1) - 1 = c.pools + z := by omega
        rw [h3, hy]; rfl)
      have fz : ∀ i, wr.frozen? ⟨w.heap.size, i, none⟩ = false := fun i => free_of HQ.out i
      have fz1 := fz (c.links + m)
      have fz2 := fz (c.pools + z)
      have nlp : c.links + m ≠ c.pools + z := by omega
      have npl : c.pools + z ≠ c.links + m := by omega
      obtain ⟨u, cu⟩ : ∃ u, wr.cell? ⟨w.heap.size, c.links + m, none⟩ = some u := by
        rw [cell_of HQ.out]
        exact ⟨_, by simpa using u64n_at (List.getElem?_eq_getElem (show c.links + m < (c.initR (c.nT - (m + 1))).length by rw [initR_len]; omega))⟩
      have hlz : l < wr.heap.size := hcl.lt
      have hsz : w.heap.size < wr.heap.size := lt_of_block HQ.out
      have hln : l ≠ w.heap.size := by have := HLW.out; omega
      have hnl : w.heap.size ≠ l := by omega
      have wm1 : IntKind.i64.wrap ((m : Int) + 1 - 1) = (m : Int) := by rw [IntKind.wrap_i64]; omega
      have wl1 : IntKind.i64.wrap ((c.links : Int) + ((m : Int) + 1)) = (c.links : Int) + ((m : Int) + 1) := by rw [IntKind.wrap_i64]; omega
      have wl2 : IntKind.i64.wrap ((c.links : Int) + ((m : Int) + 1) - 1) = ((c.links + m : Nat) : Int) := by rw [IntKind.wrap_i64]; omega
      have wp1 : IntKind.i64.wrap ((c.pools : Int) + ((z : Int) + 1)) = (c.pools : Int) + ((z : Int) + 1) := by rw [IntKind.wrap_i64]; omega
      have wp2 : IntKind.i64.wrap ((c.pools : Int) + ((z : Int) + 1) - 1) = ((c.pools + z : Nat) : Int) := by rw [IntKind.wrap_i64]; omega
      have b1 : (c.links : Int) + (m : Int) < (c.words : Int) := by omega
      have b2 : (c.pools : Int) + (z : Int) < (c.words : Int) := by omega
      have b10 : (0 : Int) ≤ (c.links : Int) + (m : Int) := by omega
      have b20 : (0 : Int) ≤ (c.pools : Int) + (z : Int) := by omega
      have bt1 : ((c.links : Int) + (m : Int)).toNat = c.links + m := by omega
      have bt2 : ((c.pools : Int) + (z : Int)).toNat = c.pools + z := by omega
      have b3 : (m : Int) < (c.nT : Int) := by omega
      have dg : decide ((1 : Int) ≤ (m : Int) + 1) = true := decide_eq_true (by omega)
      have wu : IntKind.u64.wrap ((m : Int) + 1) = (m : Int) + 1 := by rw [IntKind.wrap_u64]; omega
      have HX6 := hid (And.intro x1 x6)
      clear e1 e2 e3 hcl hrd' hcell x1 x6 hx hy fz hmn
      go_upto_region 8 with fail
      go_still_tail 20, (by kernel_rfl)
      change wpList _ _ _ _ _ wr.drew
      go_wp2
      go_roundw
      case rel =>
        refine ⟨m, by omega, rfl, ?_, ((HKK.out.setCell (.inr (Nat.le_refl _)) _).drew).setCell (.inr (Nat.le_refl _)) _⟩
        rw [HI.out, u64n_set, u64n_set, ← List.setIfInBounds_toArray, ← List.setIfInBounds_toArray]
        exact set_same (set_same HQ.out _) _
      case measure => simp [intOf]
end
end Go.Proofs.YtjghenomeindcaaGreat

/-! leapfrogref09: Find, Word, Height. -/
set_option linter.unusedVariables false
set_option linter.unusedSimpArgs false
namespace Go.Lf
theorem rplCells_at {l : List RPl} {i : Nat} {p : RPl} (h : l[i]? = some p) : (rplCells l)[i * 3]? = some (.int .u8 p.kd) ∧ (rplCells l)[i * 3 + 1]? = some (.int .i64 p.ix) ∧ (rplCells l)[i * 3 + 2]? = some (.int .i64 p.wd) := by
  unfold rplCells
  refine ⟨?_, ?_, ?_⟩
  · exact flatn_at RPl.cells 3 (fun _ => rfl) l h (j := 0) (by decide)
  · exact flatn_at RPl.cells 3 (fun _ => rfl) l h (j := 1) (by decide)
  · exact flatn_at RPl.cells 3 (fun _ => rfl) l h (j := 2) (by decide)
theorem tow_tAt (c : Cfg) {k : Nat} (h : k < c.nT) : c.tow k = c.tAt k := by
  have h1 := c.tow_at h
  have h2 := tows_take (a := c.towers) (List.getElem?_eq_getElem (show k < c.hs.length from h))
  have h3 : tows c.towers c.hs = tows c.towers (c.hs.take (k + 1)) ++ tows (c.towers + towW (c.hs.take (k + 1))) (c.hs.drop (k + 1)) := by rw [← tows_append, List.take_append_drop]
  rw [h3, h2, List.append_assoc, List.getElem?_append_right (by rw [tows_len, List.length_take]; omega)] at h1
  have h4 : k - (tows c.towers (c.hs.take k)).length = 0 := by rw [tows_len, List.length_take, Nat.min_eq_left (Nat.le_of_lt (show k < c.hs.length from h))]; omega
  rw [h4] at h1
  simp only [List.cons_append, List.getElem?_cons_zero, Option.some.injEq] at h1
  exact h1.symm
end Go.Lf
namespace Go.Proofs.YtjghenomeindcaaGreat
open Go.RowKit Go.Lf
section
variable {w : World} {l : Nat} {c : Cfg}
end
end Go.Proofs.YtjghenomeindcaaGreat

/-! The reference's parts of a store: Words and New of leapfrogref16 to 19, New of 14 and 15. -/
set_option linter.unusedVariables false
set_option linter.unusedSimpArgs false
namespace Go.Proofs.YtjghenomeindcaaGreat
open Go.RowKit Go.Lf
theorem infoSlotN : (Tryz.prog.info? 360).map (fun i => (i.zero, i.size, i.bytes)) = some (some (.agg #[.int .u64 0, .bool false, .bool false]), 3, 16) := by kernel_rfl
theorem infoBoolN : (Tryz.prog.info? 4).map (fun i => (i.zero, i.size, i.bytes)) = some (some (.bool false), 1, 1) := by kernel_rfl
theorem infoIntN : (Tryz.prog.info? 3).map (fun i => (i.zero, i.size, i.bytes)) = some (some (.int .i64 0), 1, 8) := by kernel_rfl
theorem make_boolN (n : Nat) (hn : n ≤ 1000000) (w : World) : (Instr.makeSlice 181 (.int .i64 n) (.int .i64 n)).run Tryz.prog w = .ok (.slice (some ⟨w.heap.size, 0, none⟩) n n) (w.alloc (.cells (List.replicate n (Value.bool false)).toArray 4)) := by
  obtain ⟨i, hi, hz, hsize, hby⟩ := info_parts infoBoolN
  have := run_make (P := Tryz.prog) w 181 4 i (.bool false) Tryz.underlying181 hi hz .i64 .i64 n n (by omega) (Int.le_refl _) (by rw [hby]; omega) (by omega)
  rw [this, hsize, ← made_one]
  simp [Value.cells]
theorem make_intN (n : Nat) (hn : n ≤ 1000000) (w : World) : (Instr.makeSlice 32 (.int .i64 n) (.int .i64 n)).run Tryz.prog w = .ok (.slice (some ⟨w.heap.size, 0, none⟩) n n) (w.alloc (.cells (List.replicate n (Value.int .i64 0)).toArray 3)) := by
  obtain ⟨i, hi, hz, hsize, hby⟩ := info_parts infoIntN
  have := run_make (P := Tryz.prog) w 32 3 i (.int .i64 0) Tryz.underlying32 hi hz .i64 .i64 n n (by omega) (Int.le_refl _) (by rw [hby]; omega) (by omega)
  rw [this, hsize, ← made_one]
  simp [Value.cells]
section
variable {w : World} {mb l : Nat} {c : Cfg} {F G : Nat → Prop} {ws : List Int} {log : List Acc}
set_option maxHeartbeats 1000000 in
theorem rn16w (n : Nat) (h0 : 1 ≤ n) (h1 : n ≤ 64) : Calls Tryz.prog 178 #[.int .i64 n] w fun e w' => e = .returned (.tuple #[.int .i64 n, .int .i64 0]) ∧ w = w' := by
  have d1 : decide ((n : Int) < 1) = false := decide_eq_false (by omega)
  have d2 : decide (64 < (n : Int)) = false := decide_eq_false (by omega)
  clear h0 h1
  go_enter Tryz.func178, Tryz.ntmps178
  go_wp2
  go_ret2
  exact ⟨rfl, rfl⟩
set_option maxHeartbeats 1000000 in
theorem rn17w (n : Nat) (h0 : 1 ≤ n) (h1 : n ≤ 64) : Calls Tryz.prog 179 #[.int .i64 n] w fun e w' => e = .returned (.tuple #[.int .i64 (2 * (n : Int)), .int .i64 0]) ∧ w = w' := by
  have d1 : decide ((n : Int) < 1) = false := decide_eq_false (by omega)
  have d2 : decide (64 < (n : Int)) = false := decide_eq_false (by omega)
  have hw : IntKind.i64.wrap (2 * (n : Int)) = 2 * (n : Int) := by rw [IntKind.wrap_i64]; omega
  clear h0 h1
  go_enter Tryz.func179, Tryz.ntmps179
  go_wp2
  go_ret2
  exact ⟨rfl, rfl⟩
set_option maxHeartbeats 1000000 in
theorem rn18w (n : Nat) (h0 : 1 ≤ n) (h1 : n ≤ 16) : Calls Tryz.prog 177 #[.int .i64 n] w fun e w' => e = .returned (.tuple #[.int .i64 (4 * (n : Int)), .int .i64 0]) ∧ w = w' := by
  have d1 : decide ((n : Int) < 1) = false := decide_eq_false (by omega)
  have d2 : decide (16 < (n : Int)) = false := decide_eq_false (by omega)
  have hw : IntKind.i64.wrap (4 * (n : Int)) = 4 * (n : Int) := by rw [IntKind.wrap_i64]; omega
  clear h0 h1
  go_enter Tryz.func177, Tryz.ntmps177
  go_wp2
  go_ret2
  exact ⟨rfl, rfl⟩
set_option maxHeartbeats 2000000 in
theorem rn16_ok (h : RefAt w mb F ws log) (hl : ws.length ≤ 65536) (base : Int) (n : Nat) (n0 : 1 ≤ n) (n1 : n ≤ 64) (b0 : 0 ≤ base) (b1 : base + n ≤ ws.length) :
    Calls Tryz.prog 166 #[.pointer (some ⟨mb, 0, none⟩), .int .i64 base, .int .i64 n] w (PtrTo w) := by
  have HF := hid (fits_ok h base n (by omega) (by omega) b0 b1)
  have HW := hid (@rn16w w n n0 n1)
  clear h hl b1
  go_enter Tryz.func166, Tryz.ntmps166
  go_wp2_with fail
  refine HW.out.mono ?_
  rintro e w' ⟨rfl, rfl⟩
  go_wp2_with fail
  refine HF.out.mono ?_
  rintro e w' ⟨rfl, rfl⟩
  go_wp2_with (at_make; refine wpList_mk _ rfl _ _ 313 rfl 360 _ 3 16 Tryz.underlying313 infoSlotN _ _ (n : Int) rfl rfl ?p0 ?p1 ?p2 ?_)
  case p0 => omega
  case p1 => omega
  case p2 => omega
  intro w1 hh hk hz
  have HK := hid hk
  clear hh hk hz
  go_wp2
  go_ret2
  exact ⟨_, rfl, HK.out.alloc _⟩
set_option maxHeartbeats 2000000 in
theorem rn17_ok (h : RefAt w mb F ws log) (hl : ws.length ≤ 65536) (base : Int) (n : Nat) (n0 : 1 ≤ n) (n1 : n ≤ 64) (b0 : 0 ≤ base) (b1 : base + 2 * n ≤ ws.length) :
    Calls Tryz.prog 167 #[.pointer (some ⟨mb, 0, none⟩), .int .i64 base, .int .i64 n] w (PtrTo w) := by
  have HF := hid (fits_ok h base (2 * n) (by omega) (by omega) b0 b1)
  have HW := hid (@rn17w w n n0 n1)
  clear h hl b1
  go_enter Tryz.func167, Tryz.ntmps167
  go_wp2_with fail
  refine HW.out.mono ?_
  rintro e w' ⟨rfl, rfl⟩
  go_wp2_with fail
  refine HF.out.mono ?_
  rintro e w' ⟨rfl, rfl⟩
  go_wp2_with (at_make; refine wpList_mk _ rfl _ _ 313 rfl 360 _ 3 16 Tryz.underlying313 infoSlotN _ _ (n : Int) rfl rfl ?p0 ?p1 ?p2 ?_)
  case p0 => omega
  case p1 => omega
  case p2 => omega
  intro w1 hh hk hz
  have HK := hid hk
  clear hh hk hz
  go_wp2
  go_ret2
  exact ⟨_, rfl, HK.out.alloc _⟩
set_option maxRecDepth 100000 in
set_option maxHeartbeats 2000000 in
theorem rn18_ok (h : RefAt w mb F ws log) (hl : ws.length ≤ 65536) (base : Int) (n : Nat) (n0 : 1 ≤ n) (n1 : n ≤ 16) (b0 : 0 ≤ base) (b1 : base + 4 * n ≤ ws.length) :
    Calls Tryz.prog 168 #[.pointer (some ⟨mb, 0, none⟩), .int .i64 base, .int .i64 n] w (PtrTo w) := by
  have HF := hid (fits_ok h base (4 * n) (by omega) (by omega) b0 b1)
  have HW := hid (@rn18w w n n0 n1)
  clear h hl b1
  go_enter Tryz.func168, Tryz.ntmps168
  go_wp2_with fail
  refine HW.out.mono ?_
  rintro e w' ⟨rfl, rfl⟩
  go_wp2_with fail
  refine HF.out.mono ?_
  rintro e w' ⟨rfl, rfl⟩
  go_wp2
  go_ret2
  exact ⟨_, rfl, (Keep.refl Nil w).alloc _⟩
set_option maxHeartbeats 4000000 in
theorem rpwords_ok (hok : c.ok) : Calls Tryz.prog 165 #[.int .u8 c.eng, .int .i64 (c.sl : Int), .int .i64 (c.bk : Int)] w fun e w' => e = .returned (.tuple #[.int .i64 (c.engW : Int), .int .i64 0]) ∧ w = w' := by
  have HOK := hid hok
  have s1 : decide ((c.sl : Int) < 1) = false := decide_eq_false (by have := hok.sl1; omega)
  have s2 : decide (64 < (c.sl : Int)) = false := decide_eq_false (by have := hok.sl2; omega)
  have HE := hid (show c.engW = if c.eng = 1 then c.sl else if c.eng = 2 then 2 * c.sl else 4 * c.bk from rfl)
  rcases hok.eng with h | h | h
  · have hb := hok.bk0 (by omega)
    have hE : (c.engW : Int) = (c.sl : Int) := by have := HE.out; rw [if_pos h] at this; omega
    rw [h, hb, hE]
    clear hok h hb hE HE
    go_enter Tryz.func165, Tryz.ntmps165
    go_wp2_with fail
    refine (rn16w c.sl HOK.out.sl1 HOK.out.sl2).mono ?_
    rintro e w' ⟨rfl, rfl⟩
    go_wp2
    go_ret2
    exact ⟨rfl, rfl⟩
  · have hb := hok.bk0 (by omega)
    have hE : (c.engW : Int) = 2 * (c.sl : Int) := by have := HE.out; rw [if_neg (by omega), if_pos h] at this; omega
    rw [h, hb, hE]
    clear hok h hb hE HE
    go_enter Tryz.func165, Tryz.ntmps165
    go_wp2_with fail
    refine (rn17w c.sl HOK.out.sl1 HOK.out.sl2).mono ?_
    rintro e w' ⟨rfl, rfl⟩
    go_wp2
    go_ret2
    exact ⟨rfl, rfl⟩
  · have hb := hok.bk3 h
    have hE : (c.engW : Int) = 4 * (c.bk : Int) := by have := HE.out; rw [if_neg (by omega), if_neg (by omega)] at this; omega
    rw [h, hE]
    have HB := hid hb
    clear hok h hb hE HE
    go_enter Tryz.func165, Tryz.ntmps165
    go_wp2_with fail
    refine (rn18w c.bk (by have := HB.out; omega) (by have := HB.out; omega)).mono ?_
    rintro e w' ⟨rfl, rfl⟩
    go_wp2
    go_ret2
    exact ⟨rfl, rfl⟩
set_option maxRecDepth 100000 in
set_option maxHeartbeats 4000000 in
theorem rpnew_ok (hm : RefAt w mb F ws log) (hok : c.ok) (hw : ws.length = c.words) (h16 : c.words ≤ 65536) : Calls Tryz.prog 139 #[.pointer (some ⟨mb, 0, none⟩), .int .u8 c.eng, .int .i64 (c.engine : Int), .int .i64 (c.sl : Int), .int .i64 (c.bk : Int)] w (PtrTo w) := by
  have HM := hid hm
  have HOK := hid hok
  have HE := hid (show c.engW = if c.eng = 1 then c.sl else if c.eng = 2 then 2 * c.sl else 4 * c.bk from rfl)
  have PW := fun w => hid (@rpwords_ok w c hok)
  have HW := hid hw
  have HQ := hid (le_words c)
  have HS := hid (And.intro hok.sl1 hok.sl2)
  clear hm hw
  rcases hok.eng with h | h | h
  · have HB := hid (show (c.engine : Int) + c.sl ≤ ws.length by have := HE.out; rw [if_pos h] at this; have := HQ.out; have := HW.out; omega)
    rw [h] at PW ⊢
    clear hok h HE
    go_enter Tryz.func139, Tryz.ntmps139
    go_wp2_with fail
    refine (PW _).out.mono ?_
    rintro e w' ⟨rfl, rfl⟩
    go_wp2_with fail
    refine (rn16_ok (HM.out.keep ((Keep.refl Nil w).alloc _) (fun _ _ h => h)) (by have := HW.out; omega) _ c.sl HS.out.1 HS.out.2 (by omega) HB.out).mono ?_
    rintro e w1 ⟨g, rfl, hk⟩
    have HK := hid (((Keep.refl Nil w).alloc _).trans hk (fun _ _ h => h))
    have hpb := hk.at (heap_alloc_new w _) (fun h => h)
    have cp := cell_of hpb 2
    have fp : w1.frozen? ⟨w.heap.size, 2, none⟩ = false := free_of hpb 2
    clear hk hpb
    go_wp2
    go_ret2
    exact ⟨_, rfl, Keep.setCell HK.out (.inr (Nat.le_refl _)) _⟩
  · have HB := hid (show (c.engine : Int) + 2 * c.sl ≤ ws.length by have := HE.out; rw [if_neg (by omega), if_pos h] at this; have := HQ.out; have := HW.out; omega)
    rw [h] at PW ⊢
    clear hok h HE
    go_enter Tryz.func139, Tryz.ntmps139
    go_wp2_with fail
    refine (PW _).out.mono ?_
    rintro e w' ⟨rfl, rfl⟩
    go_wp2_with fail
    refine (rn17_ok (HM.out.keep ((Keep.refl Nil w).alloc _) (fun _ _ h => h)) (by have := HW.out; omega) _ c.sl HS.out.1 HS.out.2 (by omega) HB.out).mono ?_
    rintro e w1 ⟨g, rfl, hk⟩
    have HK := hid (((Keep.refl Nil w).alloc _).trans hk (fun _ _ h => h))
    have hpb := hk.at (heap_alloc_new w _) (fun h => h)
    have cp := cell_of hpb 3
    have fp : w1.frozen? ⟨w.heap.size, 3, none⟩ = false := free_of hpb 3
    clear hk hpb
    go_wp2
    go_ret2
    exact ⟨_, rfl, Keep.setCell HK.out (.inr (Nat.le_refl _)) _⟩
  · have HK3 := hid (hok.bk3 h)
    have HB := hid (show (c.engine : Int) + 4 * c.bk ≤ ws.length by have := HE.out; rw [if_neg (by omega), if_neg (by omega)] at this; have := HQ.out; have := HW.out; omega)
    rw [h] at PW ⊢
    clear hok h HE
    go_enter Tryz.func139, Tryz.ntmps139
    go_wp2_with fail
    refine (PW _).out.mono ?_
    rintro e w' ⟨rfl, rfl⟩
    go_wp2_with fail
    refine (rn18_ok (HM.out.keep ((Keep.refl Nil w).alloc _) (fun _ _ h => h)) (by have := HW.out; omega) _ c.bk (by have := HK3.out; omega) (by have := HK3.out; omega) (by omega) HB.out).mono ?_
    rintro e w1 ⟨g, rfl, hk⟩
    have HK := hid (((Keep.refl Nil w).alloc _).trans hk (fun _ _ h => h))
    have hpb := hk.at (heap_alloc_new w _) (fun h => h)
    have cp := cell_of hpb 4
    have fp : w1.frozen? ⟨w.heap.size, 4, none⟩ = false := free_of hpb 4
    clear hk hpb
    go_wp2
    go_ret2
    exact ⟨_, rfl, Keep.setCell HK.out (.inr (Nat.le_refl _)) _⟩
/-- The memory's words, as seen from outside. -/
theorem rf_words (h : RefAt w mb F ws log) : ∃ gw wc, w.cell? ⟨mb, 0, none⟩ = some (.slice (some ⟨gw, 0, none⟩) ws.length wc) := rf_len h
set_option maxHeartbeats 2000000 in
theorem rtower_ok (hl : RLC w l c) (hm : RefAt w mb F ws log) (hw : ws.length = c.words) : Calls Tryz.prog 138 #[.pointer (some ⟨mb, 0, none⟩), .pointer (some ⟨l, 0, none⟩)] w (PtrTo w) := by
  obtain ⟨gw, wc, q0⟩ := rf_len hm
  have c25 := hl.c25
  rw [hw] at q0
  have dn : ((c.words : Int) != (c.words : Int)) = false := by simp
  have hlz := hl.lt
  have hmz : mb < w.heap.size := hm.lt mb hm.has
  clear hl hm hw
  go_enter Tryz.func138, Tryz.ntmps138
  go_wp2
  go_quiet (fail)
  go_wp2
  go_ret2
  exact ⟨_, rfl, ((Keep.refl Nil w).drewN _).alloc _⟩
/-- The reference's pools, of a new store. -/
structure RPool0 (w : World) (pb tb vb gb mb l : Nat) (c : Cfg) : Prop where
  head : w.heap[pb]? = some (.cells #[.pointer (some ⟨mb, 0, none⟩), .pointer (some ⟨l, 0, none⟩), .slice (some ⟨tb, 0, none⟩) (c.nT + 1) (c.nT + 1), .slice (some ⟨vb, 0, none⟩) (c.nT + 1) (c.nT + 1), .slice (some ⟨gb, 0, none⟩) (c.nT + 1) (c.nT + 1)] 183 (0, 0))
  tk : w.heap[tb]? = some (.cells (List.replicate (c.nT + 1) (Value.bool false)).toArray 4 (0, 0))
  gv : w.heap[vb]? = some (.cells (List.replicate (c.nT + 1) (Value.bool false)).toArray 4 (0, 0))
  gn : w.heap[gb]? = some (.cells (List.replicate (c.nT + 1) (Value.int .i64 0)).toArray 3 (0, 0))
theorem RPool0.keep {w' : World} {pb tb vb gb : Nat} {S : Nat → Prop} (h : RPool0 w pb tb vb gb mb l c) (hk : Keep S w w') (hn : ∀ k, k = pb ∨ k = tb ∨ k = vb ∨ k = gb → ¬ S k) : RPool0 w' pb tb vb gb mb l c :=
  ⟨hk.at h.head (hn _ (.inl rfl)), hk.at h.tk (hn _ (.inr (.inl rfl))), hk.at h.gv (hn _ (.inr (.inr (.inl rfl)))), hk.at h.gn (hn _ (.inr (.inr (.inr rfl))))⟩
def RPoolTo (w : World) (mb l : Nat) (c : Cfg) (e : Ending) (w' : World) : Prop :=
  ∃ pb tb vb gb, e = .returned (.tuple #[.pointer (some ⟨pb, 0, none⟩), .int .i64 0]) ∧ RPool0 w' pb tb vb gb mb l c ∧ Keep Nil w w' ∧ ∀ k, k = pb ∨ k = tb ∨ k = vb ∨ k = gb → w.heap.size ≤ k ∧ k < w'.heap.size
theorem ralloc4 (W : World) (o1 o2 o3 o4 : Obj) : ((((W.alloc o1).alloc o2).alloc o3).alloc o4).heap[W.heap.size]? = some o1 ∧ ((((W.alloc o1).alloc o2).alloc o3).alloc o4).heap[W.heap.size + 1]? = some o2 ∧ ((((W.alloc o1).alloc o2).alloc o3).alloc o4).heap[W.heap.size + 1 + 1]? = some o3 ∧ ((((W.alloc o1).alloc o2).alloc o3).alloc o4).heap[W.heap.size + 1 + 1 + 1]? = some o4 ∧ Keep Nil W ((((W.alloc o1).alloc o2).alloc o3).alloc o4) ∧ ((((W.alloc o1).alloc o2).alloc o3).alloc o4).heap.size = W.heap.size + 1 + 1 + 1 + 1 := by
  have h1 := heap_alloc_new W o1
  have h2 := heap_alloc_new (W.alloc o1) o2
  have h3 := heap_alloc_new ((W.alloc o1).alloc o2) o3
  have h4 := heap_alloc_new (((W.alloc o1).alloc o2).alloc o3) o4
  rw [World.size_alloc] at h2
  rw [World.size_alloc, World.size_alloc] at h3
  rw [World.size_alloc, World.size_alloc, World.size_alloc] at h4
  exact ⟨alloc_old (alloc_old (alloc_old h1 _) _) _, alloc_old (alloc_old h2 _) _, alloc_old h3 _, h4, ((((Keep.refl Nil W).alloc _).alloc _).alloc _).alloc _, by rw [World.size_alloc, World.size_alloc, World.size_alloc, World.size_alloc]⟩
set_option maxRecDepth 100000 in
set_option maxHeartbeats 4000000 in
theorem rpool_ok (hl : RLC w l c) (hm : RefAt w mb F ws log) (hw : ws.length = c.words) (hok : c.ok) : Calls Tryz.prog 34 #[.pointer (some ⟨mb, 0, none⟩), .pointer (some ⟨l, 0, none⟩)] w (RPoolTo w mb l c) := by
  obtain ⟨gw, wc, q0⟩ := rf_len hm
  obtain ⟨ha, hc, c26, -⟩ := hl.c26
  have c25 := hl.c25
  rw [hw] at q0
  have dn : ((c.words : Int) != (c.words : Int)) = false := by simp
  have hlz := hl.lt
  have hmz : mb < w.heap.size := hm.lt mb hm.has
  have hn := hok.nT
  have hmb := make_boolN (c.nT + 1) (by omega)
  have hmi := make_intN (c.nT + 1) (by omega)
  rw [show ((c.nT + 1 : Nat) : Int) = (c.nT : Int) + 1 from rfl] at hmb hmi
  have hw1 : IntKind.i64.wrap ((c.nT : Int) + 1) = (c.nT : Int) + 1 := by rw [IntKind.wrap_i64]; omega
  clear hl hm hw hok
  go_enter Tryz.func34, Tryz.ntmps34
  go_wp2
  go_quiet (fail)
  go_upto_region 6 with fail
  go_region
  all_goals
    go_wp2
    go_ret2
    first
      | refine ⟨w.heap.size + 1 + 1 + 1, w.heap.size, w.heap.size + 1, w.heap.size + 1 + 1, rfl, ⟨(ralloc4 _ _ _ _ _).2.2.2.1, (ralloc4 _ _ _ _ _).1, (ralloc4 _ _ _ _ _).2.1, (ralloc4 _ _ _ _ _).2.2.1⟩, ?_, ?_⟩
      | refine ⟨w.heap.size + 1 + 1 + 1, w.heap.size, w.heap.size + 1 + 1, w.heap.size + 1, rfl, ⟨(ralloc4 _ _ _ _ _).2.2.2.1, (ralloc4 _ _ _ _ _).1, (ralloc4 _ _ _ _ _).2.2.1, (ralloc4 _ _ _ _ _).2.1⟩, ?_, ?_⟩
      | refine ⟨w.heap.size + 1 + 1 + 1, w.heap.size + 1, w.heap.size, w.heap.size + 1 + 1, rfl, ⟨(ralloc4 _ _ _ _ _).2.2.2.1, (ralloc4 _ _ _ _ _).2.1, (ralloc4 _ _ _ _ _).1, (ralloc4 _ _ _ _ _).2.2.1⟩, ?_, ?_⟩
      | refine ⟨w.heap.size + 1 + 1 + 1, w.heap.size + 1, w.heap.size + 1 + 1, w.heap.size, rfl, ⟨(ralloc4 _ _ _ _ _).2.2.2.1, (ralloc4 _ _ _ _ _).2.1, (ralloc4 _ _ _ _ _).2.2.1, (ralloc4 _ _ _ _ _).1⟩, ?_, ?_⟩
      | refine ⟨w.heap.size + 1 + 1 + 1, w.heap.size + 1 + 1, w.heap.size, w.heap.size + 1, rfl, ⟨(ralloc4 _ _ _ _ _).2.2.2.1, (ralloc4 _ _ _ _ _).2.2.1, (ralloc4 _ _ _ _ _).1, (ralloc4 _ _ _ _ _).2.1⟩, ?_, ?_⟩
      | refine ⟨w.heap.size + 1 + 1 + 1, w.heap.size + 1 + 1, w.heap.size + 1, w.heap.size, rfl, ⟨(ralloc4 _ _ _ _ _).2.2.2.1, (ralloc4 _ _ _ _ _).2.2.1, (ralloc4 _ _ _ _ _).2.1, (ralloc4 _ _ _ _ _).1⟩, ?_, ?_⟩
    all_goals first
      | exact ((Keep.refl Nil w).drewN _).drew.trans (ralloc4 _ _ _ _ _).2.2.2.2.1 (fun _ _ h => h)
      | (intro k hk; refine ⟨by omega, ?_⟩; rw [World.size_alloc, World.size_alloc, World.size_alloc, World.size_alloc]; show k < w.heap.size + 1 + 1 + 1 + 1; omega)
end
end Go.Proofs.YtjghenomeindcaaGreat

/-! The reference's store (leapfrogref23.Base): where it lies. -/
set_option linter.unusedVariables false
set_option linter.unusedSimpArgs false
namespace Go.Proofs.YtjghenomeindcaaGreat
open Go.RowKit Go.Lf
def rbCells (l mb : Nat) (x2 x3 x4 x5 x6 x7 x8 x9 x10 x11 : Value) : Array Value := #[.pointer (some ⟨l, 0, none⟩), .pointer (some ⟨mb, 0, none⟩), x2, x3, x4, x5, x6, x7, x8, x9, x10, x11]
/-- What else a store of the reference that only its memory has changed has. -/
def RExtP (b mb l : Nat) (c : Cfg) (W : World) : Prop := ∃ (pb tb vb gb kb ub : Nat) (x3 x4 v9 : Value), W.heap[b]? = some (.cells (rbCells l mb (.pointer (some ⟨pb, 0, none⟩)) x3 x4 (.int .i64 0) (.bool false) (.slice none 0 0) (.slice none 0 0) v9 (.slice (some ⟨kb, 0, none⟩) (c.nT + 1) (c.nT + 1)) (.slice (some ⟨ub, 0, none⟩) (c.nT + 1) (c.nT + 1))) 128 (0, 0)) ∧ RPool0 W pb tb vb gb mb l c ∧ W.heap[kb]? = some (.cells (List.replicate (c.nT + 1) (Value.int .i64 0)).toArray 3 (0, 0)) ∧ W.heap[ub]? = some (.cells (List.replicate (c.nT + 1) (Value.int .i64 0)).toArray 3 (0, 0))
/-- The parts of the reference's store. -/
structure RP (w : World) (A : Nat → Prop) (c : Cfg) (b mb l : Nat) (F G : Nat → Prop) (ws : List Int) (log : List Acc) : Prop where
  head : ∃ x2 x3 x4 x5 x6 x7 x8 x9 x10 x11, w.heap[b]? = some (.cells (rbCells l mb x2 x3 x4 x5 x6 x7 x8 x9 x10 x11) 128 (0, 0))
  mem : RefAt w mb F ws log
  lay : KeepOn w G fun W => RLC W l c
  foot : ∀ k, A k ↔ k = b ∨ F k ∨ G k
  nF : ¬ F b
  nG : ¬ G b
  gf : ∀ k, G k → ¬ F k ∧ k < w.heap.size
  more : KeepOn w (fun k => k = b ∨ G k) (RExtP b mb l c)
section
variable {w w' : World} {A : Nat → Prop} {c : Cfg} {b mb l : Nat} {F G : Nat → Prop} {ws ws' : List Int} {log log' : List Acc}
theorem RLAt.on {G' : Nat → Prop} (h : RLAt w l c G) (hg : ∀ k, G k → G' k) : KeepOn w G' fun W => RLC W l c :=
  ⟨h.cells, fun W' S hk hn => (h.keep hk (fun k e => hn k (hg k e))).cells⟩
theorem RP.lt (h : RP w A c b mb l F G ws log) (k : Nat) (hA : A k) : k < w.heap.size := by
  rcases (h.foot k).1 hA with rfl | e | e
  · obtain ⟨_, _, _, _, _, _, _, _, _, _, hb⟩ := h.head
    exact lt_of_block hb
  · exact h.mem.lt k e
  · exact (h.gf k e).2
theorem RP.keep (h : RP w A c b mb l F G ws log) {S : Nat → Prop} (hk : Keep S w w') (hn : ∀ k, A k → ¬ S k) : RP w' A c b mb l F G ws log := by
  obtain ⟨x2, x3, x4, x5, x6, x7, x8, x9, x10, x11, hb⟩ := h.head
  exact ⟨⟨x2, x3, x4, x5, x6, x7, x8, x9, x10, x11, hk.at hb (hn b ((h.foot b).2 (.inl rfl)))⟩, h.mem.keep hk (fun k hF => hn k ((h.foot k).2 (.inr (.inl hF)))), h.lay.keep hk (fun k hG => hn k ((h.foot k).2 (.inr (.inr hG)))), h.foot, h.nF, h.nG, fun k hG => ⟨(h.gf k hG).1, by have := (h.gf k hG).2; have := hk.size; omega⟩, h.more.keep hk (fun k e => hn k (e.elim (fun e => (h.foot k).2 (.inl e)) (fun e => (h.foot k).2 (.inr (.inr e)))))⟩
theorem RP.quiet (h : RP w A c b mb l F G ws log) (hk : Keep Nil w w') : RP w' A c b mb l F G ws log := h.keep hk (fun _ _ h => h)
/-- The reference's store as a way of lying. -/
def RStoreL (c : Cfg) (b mb : Nat) : Lies (List Int × List Acc) where
  lie w A x := ∃ l F G, RP w A c b mb l F G x.1 x.2
  keep := fun ⟨L, F, G, h⟩ hk hn => ⟨L, F, G, h.keep hk hn⟩
  lt := fun ⟨_, _, _, h⟩ k hA => h.lt k hA
/-- A call of the memory. -/
theorem RP.turn (h : RP w A c b mb l F G ws log) {W : World} (hq : Keep Nil w W) (hm : RefTo W mb F ws' log' w') : (RStoreL c b mb).To w A (ws', log') w' := by
  obtain ⟨F', hm', hk, hf⟩ := hm
  have hQ := h.quiet hq
  obtain ⟨x2, x3, x4, x5, x6, x7, x8, x9, x10, x11, hb⟩ := hQ.head
  have hz := hq.size
  refine ⟨fun k => k = b ∨ F' k ∨ G k, ⟨l, F', G, ⟨x2, x3, x4, x5, x6, x7, x8, x9, x10, x11, hk.at hb h.nF⟩, hm', hQ.lay.keep hk (fun k hG => (h.gf k hG).1), fun _ => Iff.rfl, fun e => ?_, h.nG, fun k hG => ⟨fun e => ?_, by have := (hQ.gf k hG).2; have := hk.size; omega⟩, hQ.more.keep hk (fun k e => e.elim (fun e => e ▸ h.nF) (fun hG => (h.gf k hG).1))⟩, hq.mono (T := A) (fun _ _ h => h.elim) |>.trans hk (fun k _ e => (h.foot k).2 (.inr (.inl e))), fun k hk' => ?_⟩
  · rcases hf b e with e | e
    · exact h.nF e
    · have := lt_of_block hb; omega
  · rcases hf k e with e | e
    · exact (h.gf k hG).1 e
    · have := (hQ.gf k hG).2; omega
  · rcases hk' with e | e | e
    · exact .inl ((h.foot k).2 (.inl e))
    · rcases hf k e with e | e
      · exact .inl ((h.foot k).2 (.inr (.inl e)))
      · exact .inr (by omega)
    · exact .inl ((h.foot k).2 (.inr (.inr e)))
theorem RP.same (h : RP w A c b mb l F G ws log) (hq : Keep Nil w w') : (RStoreL c b mb).To w A (ws, log) w' :=
  ⟨A, ⟨l, F, G, h.quiet hq⟩, hq.mono (fun _ _ h => h.elim), fun _ h => .inl h⟩
theorem RP.c0 (h : RP w A c b mb l F G ws log) : w.cell? ⟨b, 0, none⟩ = some (.pointer (some ⟨l, 0, none⟩)) := by
  obtain ⟨x2, x3, x4, x5, x6, x7, x8, x9, x10, x11, hb⟩ := h.head
  rw [cell_of hb]; rfl
theorem RP.c1 (h : RP w A c b mb l F G ws log) : w.cell? ⟨b, 1, none⟩ = some (.pointer (some ⟨mb, 0, none⟩)) := by
  obtain ⟨x2, x3, x4, x5, x6, x7, x8, x9, x10, x11, hb⟩ := h.head
  rw [cell_of hb]; rfl
theorem RP.bl (h : RP w A c b mb l F G ws log) : b < w.heap.size := h.lt b ((h.foot b).2 (.inl rfl))
end
end Go.Proofs.YtjghenomeindcaaGreat
