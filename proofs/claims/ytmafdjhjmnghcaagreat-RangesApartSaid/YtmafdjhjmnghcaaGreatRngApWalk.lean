/- RangesApart: however threads lock and unlock, the ranges that are held never overlap: the walk. -/
import Derived.Test.YtmafdjhjmnghcaaGreatRngAM
import Derived.Test.YtmafdjhjmnghcaaGreatRngNm
import Derived.Deep.DeepCutAuto
set_option linter.unusedVariables false
set_option linter.unusedSimpArgs false
namespace Go.Proofs.YtmafdjhjmnghcaaGreat
open Go.RowKit Go.Lf
attribute [local go_sem] fld0 fld1 fld2 fld3 fld4 fld5 fld6 fld7 fld8 fld9 fldc fldl
section
theorem spanCellsA_at {l : List SpanV} {k : Nat} {x : SpanV} (hx : l[k]? = some x) {j : Nat} (hj : j < 2) : (spanCells l)[k * 2 + j]? = x.cells[j]? := flatn_at SpanV.cells 2 (fun _ => rfl) l hx hj
def lkRow (K : Nat → Option LkB) : Array Value := ((List.range 8).map fun j => LkB.ptr (K j)).toArray
def owRow (own : Nat → Spn) : Array Value := (spnCells ((List.range 8).map own)).toArray
def enRow (en : Nat → Int) : Array Value := (((List.range 8).map en).map (Value.int .i64)).toArray
/-- The walk's own rows: the lockings, their ranges, the entries. -/
structure RW3 (w : World) (bl bo be : Nat) (K : Nat → Option LkB) (own : Nat → Spn) (en : Nat → Int) : Prop where
  l : w.heap[bl]? = some (.cells (lkRow K) 22 (0, 0))
  o : w.heap[bo]? = some (.cells (owRow own) 28 (0, 0))
  e : w.heap[be]? = some (.cells (enRow en) 3 (0, 0))
section
variable {w w' : World} {bl bo be k : Nat} {K : Nat → Option LkB} {own : Nat → Spn} {en : Nat → Int}
theorem RW3.keep (h : RW3 w bl bo be K own en) {S : Nat → Prop} (hk : Keep S w w') (h1 : ¬ S bl) (h2 : ¬ S bo) (h3 : ¬ S be) : RW3 w' bl bo be K own en := ⟨hk.at h.l h1, hk.at h.o h2, hk.at h.e h3⟩
theorem RW3.quiet (h : RW3 w bl bo be K own en) (hk : Keep Nil w w') : RW3 w' bl bo be K own en := h.keep hk (fun h => h) (fun h => h) (fun h => h)
theorem RW3.out (h : RW3 w bl bo be K own en) (hk : Keep (fun q => ¬ (q = bl ∨ q = bo ∨ q = be)) w w') : RW3 w' bl bo be K own en := h.keep hk (fun h => h (.inl rfl)) (fun h => h (.inr (.inl rfl))) (fun h => h (.inr (.inr rfl)))
theorem RW3.lat (h : RW3 w bl bo be K own en) (hk : k < 8) : w.cell? ⟨bl, k, none⟩ = some (LkB.ptr (K k)) := by
  rw [cell_of h.l]
  unfold lkRow
  have := range_at (fun j => LkB.ptr (K j)) hk
  simpa using this
theorem RW3.eat (h : RW3 w bl bo be K own en) (hk : k < 8) : w.cell? ⟨be, k, none⟩ = some (.int .i64 (en k)) := by
  rw [cell_of h.e]
  unfold enRow
  have : (((List.range 8).map en).map (Value.int .i64))[k]? = some (.int .i64 (en k)) := by rw [List.getElem?_map, range_at en hk]; rfl
  simpa using this
theorem RW3.oat (h : RW3 w bl bo be K own en) (hk : k < 8) : w.cell? ⟨bo, k * 2, none⟩ = some (.int .u64 (own k).1) ∧ w.cell? ⟨bo, k * 2 + 1, none⟩ = some (.int .u64 (own k).2) := by
  have hx := range_at own hk
  refine ⟨?_, ?_⟩
  · rw [cell_of h.o]; unfold owRow; have := eqS_at hx (j := 0) (by decide); simpa using this
  · rw [cell_of h.o]; unfold owRow; have := eqS_at hx (j := 1) (by decide); simpa using this
theorem RW3.setL (h : RW3 w bl bo be K own en) (h1 : bl ≠ bo) (h2 : bl ≠ be) (o : Option LkB) : RW3 (w.setCell ⟨bl, k, none⟩ (LkB.ptr o)) bl bo be (fup K k o) own en := by
  refine ⟨?_, set_other h.o (fun e => h1 e.symm) _, set_other h.e (fun e => h2 e.symm) _⟩
  rw [set_same h.l]
  unfold lkRow
  have e : (fun j => LkB.ptr (fup K k o j)) = fup (fun j => LkB.ptr (K j)) k (LkB.ptr o) := by funext j; unfold fup; split <;> rfl
  rw [e, ← range_set]
  simp
theorem RW3.setE (h : RW3 w bl bo be K own en) (h1 : be ≠ bl) (h2 : be ≠ bo) (v : Int) : RW3 (w.setCell ⟨be, k, none⟩ (.int .i64 v)) bl bo be K own (fup en k v) := by
  refine ⟨set_other h.l (fun e => h1 e.symm) _, set_other h.o (fun e => h2 e.symm) _, ?_⟩
  rw [set_same h.e]
  unfold enRow
  rw [← range_set, List.map_set]
  simp
theorem RW3.setO (h : RW3 w bl bo be K own en) (h1 : bo ≠ bl) (h2 : bo ≠ be) (hk : k < 8) (x : Spn) : RW3 ((w.setCell ⟨bo, k * 2, none⟩ (.int .u64 x.1)).setCell ⟨bo, k * 2 + 1, none⟩ (.int .u64 x.2)) bl bo be K (fup own k x) en := by
  refine ⟨set_other (set_other h.l (fun e => h1 e.symm) _) (fun e => h1 e.symm) _, ?_, set_other (set_other h.e (fun e => h2 e.symm) _) (fun e => h2 e.symm) _⟩
  rw [set_same (set_same h.o _) _]
  unfold owRow
  rw [← range_set, ← spn_set (range_at own hk) x]
  simp
end
theorem fup_fup {α : Type} {f : Nat → α} {k : Nat} {u v : α} : fup (fup f k u) k v = fup f k v := by
  funext j; unfold fup; split <;> rfl
theorem RW3.same {w : World} {bl bo be k : Nat} {K : Nat → Option LkB} {own : Nat → Spn} {en : Nat → Int} {q : LkB} (h : RW3 w bl bo be (fup K k (some q)) own en) (s : KS) : RW3 w bl bo be (fup (fup K k (some q)) k (some ⟨q.l, q.sb, q.m, s⟩)) own en := by
  refine ⟨?_, h.o, h.e⟩
  have e : (fun j => LkB.ptr (fup (fup K k (some q)) k (some ⟨q.l, q.sb, q.m, s⟩) j)) = fun j => LkB.ptr (fup K k (some q) j) := by
    funext j
    by_cases hj : j = k
    · subst hj; rw [fup_me, fup_me]; rfl
    · rw [fup_ne hj]
  have := h.l
  unfold lkRow at this ⊢
  rw [e]
  exact this
theorem make_locks (w : World) : (Instr.makeSlice 62 (.int .i64 8) (.int .i64 8)).run Tryz.prog w = .ok (.slice (some ⟨w.heap.size, 0, none⟩) 8 8) (w.alloc (.cells (lkRow fun _ => none) 22)) := by kernel_rfl
theorem make_spans8 (w : World) : (Instr.makeSlice 35 (.int .i64 8) (.int .i64 8)).run Tryz.prog w = .ok (.slice (some ⟨w.heap.size, 0, none⟩) 8 8) (w.alloc (.cells (owRow fun _ => (0, 0)) 28)) := by kernel_rfl
theorem make_ints8 (w : World) : (Instr.makeSlice 47 (.int .i64 8) (.int .i64 8)).run Tryz.prog w = .ok (.slice (some ⟨w.heap.size, 0, none⟩) 8 8) (w.alloc (.cells (enRow fun _ => 0) 3)) := by kernel_rfl
set_option maxRecDepth 100000 in
set_option maxHeartbeats 16000000 in
theorem walk_rapart (w : World) (z : ConfV) (hz : ConfArg w z) (vs : Value) (ss : List SpanV) (rds : Rd w 2 vs ss.length (spanCells ss)) (bs : ∀ y ∈ ss, SpanV.wf y) (ms : ss.length ≤ maxLen) (tr : Int) (bt : (Lit.int .i64 tr).wf = true)
    (vd : Value) (ds : List Int) (rdd : Rd w 1 vd ds.length (ds.map (Value.int .i64))) (bd : ∀ n ∈ ds, (Lit.int .i64 n).wf = true) (md : ds.length ≤ maxLen) :
    Calls Tryz.prog 4 #[z.val, vs, .int .i64 tr, vd] w fun e w' => e = .returned (.bool true) ∧ Keep Nil w w' := by
  obtain ⟨tr0, tr1⟩ := i64_wf bt
  obtain ⟨sa, sc, rfl, -, -⟩ := id rds
  obtain ⟨da, dc, rfl, -, -⟩ := id rdd
  have HRS := hid rds
  have HRD := hid rdd
  have HBS := hid bs
  have HBD := hid bd
  have HML := hid (And.intro ms md)
  have HZ := hid hz
  have HC0 := hid z.ok
  clear hz bt rds rdd bs bd ms md
  unfold ConfV.val
  go_enter Tryz.func4, Tryz.ntmps4
  go_wp2_with fail
  refine (small_ok z (HZ.out.keep ((Keep.refl Nil w).alloc _))).mono ?_
  rintro e w1 ⟨a1, cp1, rfl, hr1, hk1, -⟩
  have hb1 := hk1.at (heap_alloc_new w _) (fun h => h)
  have HB1 := hid hb1
  have HR1 := hid hr1
  have HK1 := hid (show Keep Nil w w1 from ((Keep.refl Nil w).alloc _).trans hk1 (fun _ _ h => h))
  clear hb1 hr1 hk1
  go_wp2_with fail
  refine (small_new z HR1.out).mono ?_
  rintro e w2 hnew
  obtain ⟨b, mb, rfl, hs⟩ := SW.new HK1.out hnew
  have HS := hid hs
  obtain ⟨V1, hV1⟩ : ∃ V : Value, V = cfgV z.c (z.t1 % 7).toNat (z.t2 % 7).toNat (z.t3 % 7).toNat (z.t4 % 7).toNat (z.t5 % 7).toNat (z.t6 % 7).toNat a1 cp1 := ⟨_, rfl⟩
  obtain ⟨VZ, hVZ⟩ : ∃ V : Value, V = z.val := ⟨_, rfl⟩
  unfold ConfV.val at hVZ
  rw [← hV1, ← hVZ]
  clear hV1 hVZ hnew hs HB1 HR1
  obtain ⟨c, hc⟩ : ∃ c, c = z.c := ⟨_, rfl⟩
  rw [← hc] at HS HC0
  have HC := hid HC0.out
  clear hc HC0 HZ HK1
  have mk1 := make_locks w2
  have mk2 := make_spans8 (w2.alloc (.cells (lkRow fun _ => none) 22))
  have mk3 := make_ints8 ((w2.alloc (.cells (lkRow fun _ => none) 22)).alloc (.cells (owRow fun _ => (0, 0)) 28))
  go_upto_region 8 with fail
  obtain ⟨W0, hW0⟩ : ∃ W0, W0 = ((w2.alloc (.cells (lkRow fun _ => none) 22)).alloc (.cells (owRow fun _ => (0, 0)) 28)).alloc (.cells (enRow fun _ => 0) 3) := ⟨_, rfl⟩
  obtain ⟨bl, hbl⟩ : ∃ x, x = w2.heap.size := ⟨_, rfl⟩
  obtain ⟨bo, hbo⟩ : ∃ x, x = w2.heap.size + 1 := ⟨_, rfl⟩
  obtain ⟨be, hbe⟩ : ∃ x, x = w2.heap.size + 1 + 1 := ⟨_, rfl⟩
  rw [← hW0, ← hbe, ← hbo, ← hbl]
  clear mk1 mk2 mk3
  have HK0 := hid (show Keep Nil w2 W0 from hW0 ▸ (((Keep.refl Nil w2).alloc _).alloc _).alloc _)
  have HR0 := hid (show RW3 W0 bl bo be (fun _ => none) (fun _ => (0, 0)) (fun _ => 0) from ⟨by rw [hW0, hbl]; exact alloc_old (alloc_old (heap_alloc_new _ _) _) _, by rw [hW0, hbo]; exact alloc_old (by have h := heap_alloc_new (w2.alloc (.cells (lkRow fun _ => none) 22)) (.cells (owRow fun _ => (0, 0)) 28); rw [World.size_alloc] at h; exact h) _, by rw [hW0, hbe]; have h := heap_alloc_new ((w2.alloc (.cells (lkRow fun _ => none) 22)).alloc (.cells (owRow fun _ => (0, 0)) 28)) (.cells (enRow fun _ => 0) 3); rw [World.size_alloc, World.size_alloc] at h; exact h⟩)
  have HSZ := hid (show w2.heap.size ≤ bl ∧ w2.heap.size ≤ bo ∧ w2.heap.size ≤ be by omega)
  have hne1 : bl ≠ bo := by omega
  have hne2 : bl ≠ be := by omega
  have hne3 : bo ≠ be := by omega
  have hne4 : bo ≠ bl := by omega
  have hne5 : be ≠ bl := by omega
  have hne6 : be ≠ bo := by omega
  clear hW0 hbl hbo hbe
  go_wp2
  go_loopw [16] (fun i wz => ∃ (k : Nat) (en : Nat → Int), k ≤ 8 ∧ i = .int .i64 k ∧ RW3 wz bl bo be (fun _ => none) (fun _ => (0, 0)) en ∧ Keep Nil w2 wz ∧ ∀ j, j < k → en j = -1) (fun i _ => 8 - (intOf i).toNat)
  case atStart => exact ⟨0, _, Nat.zero_le _, rfl, HR0.out, HK0.out, fun j h => absurd h (Nat.not_lt_zero j)⟩
  case round =>
    obtain ⟨k, en, hk, rfl, hrw, hkw, hen⟩ := hrel
    have HRW := hid hrw
    have HKW := hid hkw
    have HEN := hid hen
    clear hrw hkw hen
    by_cases hlt : k < 8
    · have dk : decide ((k : Int) < 8) = true := decide_eq_true (by omega)
      have ek : decide (k < 8) = true := decide_eq_true hlt
      have k0 : (0 : Int) ≤ (k : Int) := by omega
      have k1 : (k : Int) < 8 := by omega
      have wk : IntKind.i64.wrap ((k : Int) + 1) = (k : Int) + 1 := by rw [IntKind.wrap_i64]; omega
      have cx := HRW.out.eat hlt
      have fx : wr.frozen? ⟨be, k, none⟩ = false := free_of HRW.out.e k
      have HLT := hid hlt
      clear hk
      go_wp2
      go_roundw
      case rel => exact ⟨k + 1, fup en k (-1), by have := HLT.out; omega, by go_num, HRW.out.setE hne5 hne6 (-1), HKW.out.setCell (.inr HSZ.out.2.2) _, fun j hj => by
        by_cases h : j = k
        · subst h; exact fup_me
        · rw [fup_ne h]; exact HEN.out j (by omega)⟩
      case measure => have := HLT.out; simp [intOf]; omega
    · obtain rfl : k = 8 := by omega
      have hen8 : enRow en = enRow (fun _ => -1) := by
        unfold enRow
        have : (List.range 8).map en = (List.range 8).map (fun _ => (-1 : Int)) := List.map_congr_left fun j hj => HEN.out j (List.mem_range.1 hj)
        rw [this]
      have HR8 := hid (show RW3 wr bl bo be (fun _ => none) (fun _ => (0, 0)) (fun _ => -1) from ⟨HRW.out.l, HRW.out.o, by rw [← hen8]; exact HRW.out.e⟩)
      have HA8 := hid (show AS (fun q => q = bl ∨ q = bo ∨ q = be) w wr c b mb (tr % 7) 0 (fun _ => none) (fun _ => (0, 0)) (fun _ => -1) 0 from AS.start HS.out HC.out rfl HKW.out (fun q e => by
        have h1 := lt_of_block HRW.out.l
        have h2 := lt_of_block HRW.out.o
        have h3 := lt_of_block HRW.out.e
        have := HSZ.out
        rcases e with e | e | e <;> omega) _)
      have HOG := hid (show ∀ q, (q = bl ∨ q = bo ∨ q = be) → w.heap.size ≤ q from fun q e => by
        have := HS.out.own.size
        have := HSZ.out
        rcases e with e | e | e <;> omega)
      have tm0 : 0 ≤ tr % 7 := Int.emod_nonneg _ (by decide)
      have tm1 : tr % 7 < 7 := Int.emod_lt_of_pos _ (by decide)
      have HTM := hid (show ∀ W : World, Calls Tryz.prog 29 #[.int .i64 tr, .int .i64 7] W fun e' w' => e' = .returned (.int .i64 (tr % 7)) ∧ W = w' from fun W => mod_ok tr 7 tr0 tr1 (by decide) (by decide) W)
      obtain ⟨tm, htm⟩ : ∃ tm, tm = tr % 7 := ⟨_, rfl⟩
      rw [← htm] at HA8 HTM tm0 tm1
      clear htm hen8 HRW HKW HEN HR0 HK0 hlt hk HS
      go_wp2
      clear tr0 tr1
      go_loopw [12, 17, 18] (fun xv nv iv wz => ∃ (i nx n : Nat) (K : Nat → Option LkB) (own : Nat → Spn) (en : Nat → Int), i ≤ 400 ∧ nx ≤ i ∧ xv = .int .i64 nx ∧ nv = .int .i64 n ∧ iv = .int .i64 i ∧ AS (fun q => q = bl ∨ q = bo ∨ q = be) w wz c b mb tm i K own en n ∧ RW3 wz bl bo be K own en) (fun _ _ iv _ => 400 - (intOf iv).toNat)
      case atStart => exact ⟨0, 0, 0, _, _, _, Nat.zero_le _, Nat.le_refl _, rfl, rfl, rfl, HA8.out, HR8.out⟩
      case round =>
        obtain ⟨i, nx, n, K, own, en, hi, hnx, hxv, hnv, rfl, has, hrw⟩ := hrel
        subst hxv hnv
        have HAS := hid has
        have HRW := hid hrw
        have HNX := hid hnx
        clear has hrw hnx HA8 HR8
        by_cases hlt : i < ds.length
        · have d1 : decide ((i : Int) < (ds.length : Int)) = true := decide_eq_true (by omega)
          have e1 : decide (i < ds.length) = true := decide_eq_true hlt
          by_cases h4 : i < 400
          · have d2 : decide ((i : Int) < 400) = true := decide_eq_true (by omega)
            have e2 : decide (i < 400) = true := decide_eq_true h4
            by_cases hs0 : 0 < ss.length
            · have d3 : decide ((0 : Int) < (ss.length : Int)) = true := decide_eq_true (by omega)
              have e3 : decide (0 < ss.length) = true := decide_eq_true hs0
              obtain ⟨dv, hdv⟩ : ∃ dv, ds[i]? = some dv := ⟨_, List.getElem?_eq_getElem hlt⟩
              have hdw := i64_wf (HBD.out dv (List.mem_of_getElem? hdv))
              obtain ⟨b3, off3, cc3, hv3, hcell3⟩ := Rd.cell HRD.out (by omega)
              simp only [Value.slice.injEq] at hv3
              obtain ⟨hv4, -, hv5⟩ := hv3
              have cd : wr.cell? ⟨b3, off3 + i, none⟩ = some (.int .i64 dv) := HAS.out.own_.cell (hcell3 i _ (by rw [List.getElem?_map, hdv]; rfl)) (fun h => h)
              have i0 : (0 : Int) ≤ (i : Int) := by omega
              have i1 : (i : Int) < (ds.length : Int) := by omega
              have em0 : 0 ≤ dv % 8 := Int.emod_nonneg _ (by decide)
              have em1 : dv % 8 < 8 := Int.emod_lt_of_pos _ (by decide)
              obtain ⟨kk, hkk⟩ : ∃ kk : Nat, dv % 8 = (kk : Int) := ⟨(dv % 8).toNat, by omega⟩
              have hk8 : kk < 8 := by omega
              have HMOD := hid (show ∀ W : World, Calls Tryz.prog 29 #[.int .i64 dv, .int .i64 8] W fun e' w' => e' = .returned (.int .i64 (kk : Int)) ∧ W = w' from fun W => by
                have h := mod_ok dv 8 hdw.1 hdw.2 (by decide) (by decide) W
                rw [hkk] at h
                exact h)
              have HH4 := hid h4
              have HS0 := hid hs0
              have ce := HRW.out.eat hk8
              have kk0 : (0 : Int) ≤ (kk : Int) := by omega
              have kk1 : (kk : Int) < 8 := by omega
              have wi : IntKind.i64.wrap ((i : Int) + 1) = (i : Int) + 1 := by rw [IntKind.wrap_i64]; omega
              obtain ⟨qe, hqe⟩ : ∃ qe : Bool, qe = decide (0 ≤ en kk) := ⟨_, rfl⟩
              have hqe' := hqe.symm
              have HQE := hid hqe
              have HK8 := hid hk8
              clear hcell3 hdv hdw em0 em1 hkk hlt h4 hs0 hi hk8 hqe
              subst hv4 hv5
              go_wp2_with fail
              refine (HMOD.out _).mono ?_
              rintro e' w' ⟨rfl, rfl⟩
              go_upto_if 72 with fail
              clear hqe'
              go_cut [12, 17] (fun xv nv wx => ∃ (nx' n' : Nat) (K' : Nat → Option LkB) (own' : Nat → Spn) (en' : Nat → Int), xv = .int .i64 nx' ∧ nv = .int .i64 n' ∧ Hid (nx' ≤ i + 1) ∧ Hid (AS (fun q => q = bl ∨ q = bo ∨ q = be) w wx c b mb tm (i + 1) K' own' en' n') ∧ Hid (RW3 wx bl bo be K' own' en'))
              case first =>
                cases qe with
                | true =>
                  as_aux_lemma =>
                    have he0 := of_decide_eq_true HQE.out.symm
                    obtain ⟨e, hee⟩ : ∃ e : Nat, en kk = (e : Int) := ⟨(en kk).toNat, by omega⟩
                    have hun := as_unlock HAS.out HC.out kk (by have := HK8.out; omega) e hee (by have := HH4.out; omega)
                    have HUN := hid hun
                    rw [hee] at ce
                    have zl : wr.frozen? ⟨bl, kk, none⟩ = false := free_of HRW.out.l kk
                    have hnl := HAS.out.le HC.out
                    have wn : IntKind.i64.wrap ((n : Int) - 1) = (n : Int) - 1 := by rw [IntKind.wrap_i64]; omega
                    clear he0 hun hee hnl
                    go_wp2_with fail
                    refine HUN.out.mono ?_
                    rintro e' w12 ⟨n', hn', rfl, has2, hk2⟩
                    have HA2 := hid has2
                    have HR2 := hid (HRW.out.out hk2)
                    have HN2 := hid hn'
                    have ce2 := HR2.out.eat HK8.out
                    have cl2 := HR2.out.lat HK8.out
                    have ze2 : w12.frozen? ⟨be, kk, none⟩ = false := free_of HR2.out.e kk
                    have zl2 : w12.frozen? ⟨bl, kk, none⟩ = false := free_of HR2.out.l kk
                    clear has2 hk2 hn' ce zl HUN
                    go_wp2
                    go_meet
                    have hk9 : Keep (fun q => q = bl ∨ q = bo ∨ q = be) w12 ((w12.setCell ⟨be, kk, none⟩ (.int .i64 (-1))).setCell ⟨bl, kk, none⟩ (.pointer none)) := ((Keep.refl (fun q => q = bl ∨ q = bo ∨ q = be) w12).setCell (.inl (.inr (.inr rfl))) _).setCell (.inl (.inl rfl)) _
                    exact ⟨nx, n', fup K kk none, own, fup en kk (-1), rfl, congrArg (Value.int .i64) (by have := HN2.out; omega), hid (by have := HNX.out; omega), hid (HA2.out.other hk9 HOG.out), hid ((HR2.out.setE hne5 hne6 (-1)).setL hne1 hne2 none)⟩
                | false =>
                  have HE := hid (show en kk < 0 from by have := of_decide_eq_false HQE.out.symm; omega)
                  clear ce
                  go_upto_region 22 with fail
                  go_cut [93] (fun q wx => ∃ qn : Bool, q = .bool qn ∧ wx = wr ∧ Hid (qn = (K kk).isNone))
                  case first =>
                    have cl := HRW.out.lat HK8.out
                    cases hK : K kk with
                    | none =>
                      rw [hK] at cl
                      have cl1 : wr.cell? ⟨bl, kk, none⟩ = some (.pointer none) := cl
                      clear cl
                      go_wp2
                      go_meet
                      exact ⟨true, rfl, rfl, hid (by rw [hK]; rfl)⟩
                    | some q =>
                      rw [hK] at cl
                      have cl1 : wr.cell? ⟨bl, kk, none⟩ = some (.pointer (some ⟨q.l, 0, none⟩)) := cl
                      clear cl
                      go_wp2
                      go_meet
                      exact ⟨false, rfl, rfl, hid (by rw [hK]; rfl)⟩
                  case rest =>
                    obtain ⟨qn, hq, hwx, HQN⟩ := hcut
                    subst hq hwx
                    go_upto_if 93 with fail
                    go_cut [12] (fun xv wx => ∃ (nx' : Nat) (q : LkB) (own' : Nat → Spn), xv = .int .i64 nx' ∧ Hid (nx' ≤ i + 1) ∧ Hid (AS (fun q => q = bl ∨ q = bo ∨ q = be) w wx c b mb tm i (fup K kk (some q)) own' en n) ∧ Hid (RW3 wx bl bo be (fup K kk (some q)) own' en))
                    case first =>
                      cases qn with
                      | false =>
                        as_aux_lemma =>
                          obtain ⟨q, hK⟩ : ∃ q, K kk = some q := by
                            have := HQN.out
                            cases h : K kk with
                            | none => rw [h] at this; cases this
                            | some q => exact ⟨q, rfl⟩
                          have hKK : fup K kk (some q) = K := by rw [← hK]; exact fup_same
                          have HKK := hid hKK
                          clear hK hKK
                          go_wp2
                          go_meet
                          exact ⟨nx, q, own, rfl, hid (by have := HNX.out; omega), hid (by rw [HKK.out]; exact HAS.out), hid (by rw [HKK.out]; exact HRW.out)⟩
                      | true =>
                        have HKN := hid (show K kk = none from by
                          have := HQN.out
                          cases h : K kk with
                          | none => rfl
                          | some q => rw [h] at this; cases this)
                        have hsl := HS0.out
                        have rm0 : 0 ≤ (nx : Int) % (ss.length : Int) := Int.emod_nonneg _ (by omega)
                        have rm1 : (nx : Int) % (ss.length : Int) < (ss.length : Int) := Int.emod_lt_of_pos _ (by omega)
                        obtain ⟨r, hr⟩ : ∃ r : Nat, (nx : Int) % (ss.length : Int) = (r : Int) := ⟨((nx : Int) % (ss.length : Int)).toNat, by omega⟩
                        have hrt : Int.tmod (nx : Int) (ss.length : Int) = (r : Int) := by rw [Int.tmod_eq_emod_of_nonneg (by omega)]; exact hr
                        have hrl : r < ss.length := by omega
                        obtain ⟨y, hy⟩ : ∃ y, ss[r]? = some y := ⟨_, List.getElem?_eq_getElem hrl⟩
                        obtain ⟨wl, wh⟩ := HBS.out y (List.mem_of_getElem? hy)
                        obtain ⟨yl0, yl1⟩ := u64_wf wl
                        obtain ⟨yh0, yh1⟩ := u64_wf wh
                        obtain ⟨bb, off, cc, hv, hcell⟩ := Rd.cell HRS.out (by omega)
                        simp only [Value.slice.injEq] at hv
                        obtain ⟨hv1, -, hv2⟩ := hv
                        have cs0 : wc.cell? ⟨bb, off + r * 2, none⟩ = some (.int .u64 y.lo) := HAS.out.own_.cell (hcell (r * 2) _ (by have := spanCellsA_at hy (j := 0) (by decide); simpa [SpanV.cells] using this)) (fun h => h)
                        have cs1 : wc.cell? ⟨bb, off + r * 2 + 1, none⟩ = some (.int .u64 y.hi) := HAS.out.own_.cell (by rw [Nat.add_assoc]; exact hcell (r * 2 + 1) _ (by have := spanCellsA_at hy (j := 1) (by decide); simpa [SpanV.cells] using this)) (fun h => h)
                        obtain ⟨co0, co1⟩ := HRW.out.oat HK8.out
                        have zo0 : wc.frozen? ⟨bo, kk * 2, none⟩ = false := free_of HRW.out.o _
                        have zo1 : wc.frozen? ⟨bo, kk * 2 + 1, none⟩ = false := free_of HRW.out.o _
                        have r0 : (0 : Int) ≤ (r : Int) := by omega
                        have r1 : (r : Int) < (ss.length : Int) := by omega
                        have nx0 : (0 : Int) ≤ (nx : Int) := by omega
                        have wnx : IntKind.i64.wrap ((nx : Int) + 1) = (nx : Int) + 1 := by rw [IntKind.wrap_i64]; have := HNX.out; have := HH4.out; omega
                        have nsl : ¬ ((ss.length : Int) = 0) := by omega
                        have bsl : ((ss.length : Int) == 0) = false := by simpa using nsl
                        clear hcell hy wl wh hrl hsl rm0 rm1
                        subst hv1 hv2
                        go_upto_region 25 with fail
                        obtain ⟨WA, hWA⟩ : ∃ W, W = (wc.setCell ⟨bo, kk * 2, none⟩ (.int .u64 y.lo)).setCell ⟨bo, kk * 2 + 1, none⟩ (.int .u64 y.hi) := ⟨_, rfl⟩
                        rw [← hWA]
                        have HKA := hid (show Keep (fun q => q = bl ∨ q = bo ∨ q = be) wc WA from hWA ▸ ((Keep.refl (fun q => q = bl ∨ q = bo ∨ q = be) wc).setCell (.inl (.inr (.inl rfl))) _).setCell (.inl (.inr (.inl rfl))) _)
                        have HRA := hid (show RW3 WA bl bo be K (fup own kk (y.lo, y.hi)) en from hWA ▸ HRW.out.setO hne4 hne3 HK8.out (y.lo, y.hi))
                        have HAA := hid (HAS.out.other HKA.out HOG.out)
                        have ca0 : WA.cell? ⟨bo, kk * 2, none⟩ = some (.int .u64 y.lo) := by have := (HRA.out.oat HK8.out).1; rw [fup_me] at this; exact this
                        have ca1 : WA.cell? ⟨bo, kk * 2 + 1, none⟩ = some (.int .u64 y.hi) := by have := (HRA.out.oat HK8.out).2; rw [fup_me] at this; exact this
                        have za0 : WA.frozen? ⟨bo, kk * 2, none⟩ = false := free_of HRA.out.o _
                        have za1 : WA.frozen? ⟨bo, kk * 2 + 1, none⟩ = false := free_of HRA.out.o _
                        clear hWA cs0 cs1 co0 co1 zo0 zo1 r0 r1 hr hrt nsl bsl
                        obtain ⟨qg, hqg⟩ : ∃ qg : Bool, qg = decide (y.hi < y.lo) := ⟨_, rfl⟩
                        have hqg' := hqg.symm
                        have HQG := hid hqg
                        clear hqg
                        go_wp2
                        go_quiet (fail)
                        clear hqg'
                        go_upto_if 116 with fail
                        go_cut [] (fun wx => ∃ x : Spn, Hid (x.1 ≤ x.2 ∧ (0 ≤ x.1 ∧ x.1 < 18446744073709551616) ∧ (0 ≤ x.2 ∧ x.2 < 18446744073709551616)) ∧ Hid (AS (fun q => q = bl ∨ q = bo ∨ q = be) w wx c b mb tm i K own en n) ∧ Hid (RW3 wx bl bo be K (fup own kk x) en))
                        case first =>
                          as_aux_lemma =>
                            cases qg with
                            | false =>
                              have hlh := of_decide_eq_false HQG.out.symm
                              go_wp2
                              go_meet
                              exact ⟨(y.lo, y.hi), hid ⟨by show y.lo ≤ y.hi; omega, ⟨yl0, yl1⟩, ⟨yh0, yh1⟩⟩, hid (HAA.out.quiet ((Keep.refl Nil WA).drewN _)), hid (HRA.out.quiet ((Keep.refl Nil WA).drewN _))⟩
                            | true =>
                              have hlh := of_decide_eq_true HQG.out.symm
                              go_wp2
                              obtain ⟨WB, hWB⟩ : ∃ W, W = WA.drewN nq := ⟨_, rfl⟩
                              have HKB := hid (show Keep Nil WA WB from hWB ▸ (Keep.refl Nil WA).drewN _)
                              rw [← hWB]
                              have cb0 : WB.cell? ⟨bo, kk * 2, none⟩ = some (.int .u64 y.lo) := HKB.out.cell ca0 (fun h => h)
                              have cb1 : WB.cell? ⟨bo, kk * 2 + 1, none⟩ = some (.int .u64 y.hi) := HKB.out.cell ca1 (fun h => h)
                              have zb0 : WB.frozen? ⟨bo, kk * 2, none⟩ = false := free_of (HRA.out.quiet HKB.out).o _
                              have zb1 : WB.frozen? ⟨bo, kk * 2 + 1, none⟩ = false := free_of (HRA.out.quiet HKB.out).o _
                              clear hWB ca0 ca1 za0 za1
                              go_region
                              go_wp2
                              go_meet
                              obtain ⟨WC, hWC⟩ : ∃ W, W = (WB.setCell ⟨bo, kk * 2, none⟩ (.int .u64 y.hi)).setCell ⟨bo, kk * 2 + 1, none⟩ (.int .u64 y.lo) := ⟨_, rfl⟩
                              have hkC : Keep (fun q => q = bl ∨ q = bo ∨ q = be) WB WC := hWC ▸ ((Keep.refl (fun q => q = bl ∨ q = bo ∨ q = be) WB).setCell (.inl (.inr (.inl rfl))) _).setCell (.inl (.inr (.inl rfl))) _
                              have hrC : RW3 WC bl bo be K (fup own kk (y.hi, y.lo)) en := by
                                have := (HRA.out.quiet HKB.out).setO hne4 hne3 HK8.out (y.hi, y.lo)
                                rw [fup_fup] at this
                                rw [hWC]
                                exact this
                              rw [← hWC]
                              exact ⟨(y.hi, y.lo), hid ⟨by show y.hi ≤ y.lo; omega, ⟨yh0, yh1⟩, ⟨yl0, yl1⟩⟩, hid (((HAA.out.quiet HKB.out).other hkC HOG.out).quiet ((Keep.refl Nil WC).drew)), hid (hrC.quiet ((Keep.refl Nil WC).drew))⟩
                        case rest =>
                          as_aux_lemma =>
                            obtain ⟨x, HX, HA3, HR3⟩ := hcut
                            clear HAA HRA HKA ca0 ca1 za0 za1 HQG yl0 yl1 yh0 yh1
                            obtain ⟨co0, co1⟩ := HR3.out.oat HK8.out
                            rw [fup_me] at co0 co1
                            have cl := HR3.out.lat HK8.out
                            have zl : wc.frozen? ⟨bl, kk, none⟩ = false := free_of HR3.out.l _
                            have KD := hid ((Keep.refl Nil wc).drew)
                            go_wp2
                            go_region_held3 (fun w' => w'.cell? ⟨bo, kk * 2, none⟩ = some (.int .u64 x.1) ∧ w'.cell? ⟨bo, kk * 2 + 1, none⟩ = some (.int .u64 x.2)) (go_keep)
                              (first
                                | (go_at_call 29; (with_reducible refine (HTM.out _).mono ?_); rintro e w9 ⟨rfl, rfl⟩)
                                | (go_at_call 12; (with_reducible refine (as_new (HA3.out.quiet KD.out) HC.out kk (by have := HK8.out; omega) HKN.out HE.out x HX.out.1 HX.out.2.1 HX.out.2.2 tm0 (by omega)).mono ?_); rintro e w9 ⟨q, rfl, has9, hk9⟩; have K9 := hid (KD.out.trans hk9 (fun _ _ h => h)); have HA9 := hid has9; have HR9 := hid (HR3.out.quiet K9.out); have i0 := K9.out.cell co0 (fun h => h); have i1 := K9.out.cell co1 (fun h => h); have i2 := K9.out.cell cl (fun h => h); have i3 : w9.frozen? ⟨bl, kk, none⟩ = false := free_of HR9.out.l _; rw [show LkB.ptr (some q) = Value.pointer (some ⟨q.l, 0, none⟩) from rfl]; clear has9 hk9))
                            all_goals
                              clear i0 i1
                              have HRC := hid (HR9.out.setL (k := kk) hne1 hne2 (some q))
                              have HKC := hid (show Keep (fun q => q = bl ∨ q = bo ∨ q = be) w9 (w9.setCell ⟨bl, kk, none⟩ (LkB.ptr (some q))) from (Keep.refl (fun q => q = bl ∨ q = bo ∨ q = be) w9).setCell (.inl (.inl rfl)) _)
                              go_wp2
                              go_meet
                              exact ⟨nx + 1, q, fup own kk x, by go_num, hid (by have := HNX.out; omega), hid (HA9.out.other HKC.out HOG.out), hid HRC.out⟩
                    case rest =>
                      obtain ⟨nx', q, own', hxv, HNX', HA4, HR4⟩ := hcut
                      subst hxv
                      clear HAS HRW HQN HNX
                      have cl : wc.cell? ⟨bl, kk, none⟩ = some (.pointer (some ⟨q.l, 0, none⟩)) := by have := HR4.out.lat HK8.out; rw [fup_me] at this; exact this
                      have hst := as_step HA4.out HC.out kk fup_me HE.out (by have := HH4.out; omega)
                      have HST := hid hst
                      have hnl := HA4.out.le HC.out
                      have wn : IntKind.i64.wrap ((n : Int) + 1) = (n : Int) + 1 := by rw [IntKind.wrap_i64]; omega
                      clear hst hnl
                      go_wp2_with fail
                      refine HST.out.mono ?_
                      rintro e w12 ⟨s', n', rfl, hk2, hn2, hlk2, hcase⟩
                      have HR5 := hid (HR4.out.out hk2)
                      have HN5 := hid hn2
                      have HL5 := hid hlk2
                      have HCA := hid hcase
                      clear hk2 hn2 hlk2 hcase HST cl
                      go_upto_if 161 with fail
                      go_cut [17] (fun nv wx => nv = .int .i64 n' ∧ w12 = wx)
                      case first =>
                        as_aux_lemma =>
                          by_cases h42 : q.s.next = 42
                          · have b42 : (q.s.next == 42) = true := by rw [h42]; rfl
                            have hn1 : n' = n + 1 := by have := HN5.out; rw [if_pos h42] at this; exact this
                            clear h42
                            go_wp2
                            go_meet
                            exact ⟨by rw [hn1]; go_num, rfl⟩
                          · have b42 : (q.s.next == 42) = false := beq_eq_false_iff_ne.2 h42
                            have hn1 : n' = n := by have := HN5.out; rw [if_neg h42] at this; exact this
                            clear h42
                            go_wp2
                            go_meet
                            exact ⟨by rw [hn1], rfl⟩
                      case rest =>
                        as_aux_lemma =>
                          obtain ⟨hnv, hwx⟩ := hcut
                          subst hnv hwx
                          have cl := HR5.out.lat HK8.out
                          rw [fup_me] at cl
                          have cl5 : w12.cell? ⟨bl, kk, none⟩ = some (.pointer (some ⟨q.l, 0, none⟩)) := cl
                          clear cl wn
                          rcases HCA.out with ⟨c1, c2⟩ | ⟨c1, c2, c3⟩ | ⟨j, c1, c2, c3⟩
                          · have bz : (s'.next == 0) = false := beq_eq_false_iff_ne.2 c1
                            have HC2 := hid c2
                            clear c1 c2 HCA
                            go_wp2
                            go_meet
                            exact ⟨nx', n', _, own', en, rfl, rfl, HNX', HC2, hid (HR5.out.same s')⟩
                          · have bz : (s'.next == 0) = true := by rw [c1]; rfl
                            have HRS2 := hid c2
                            have HC2 := hid c3
                            clear c1 c2 c3 HCA
                            go_wp2_with fail
                            refine (kres_ok HL5.out 0 s'.fails 11 HRS2.out).mono ?_
                            rintro e' w13 ⟨rfl, hk3⟩
                            have HR6 := hid (HR5.out.quiet hk3)
                            have HC3 := hid (HC2.out.quiet hk3)
                            have cl6 := hk3.cell cl5 (fun h => h)
                            have zl6 : w13.frozen? ⟨bl, kk, none⟩ = false := free_of HR6.out.l _
                            clear hk3 cl5
                            go_wp2
                            go_meet
                            have hk9 : Keep (fun q => q = bl ∨ q = bo ∨ q = be) w13 (w13.setCell ⟨bl, kk, none⟩ (.pointer none)) := (Keep.refl (fun q => q = bl ∨ q = bo ∨ q = be) w13).setCell (.inl (.inl rfl)) _
                            have hr9 := HR6.out.setL (k := kk) hne1 hne2 none
                            rw [fup_fup] at hr9
                            have ha9 := HC3.out.other hk9 HOG.out
                            rw [fup_fup] at ha9
                            exact ⟨nx', n', _, own', en, rfl, rfl, HNX', hid ha9, hid hr9⟩
                          · have bz : (s'.next == 0) = true := by rw [c1]; rfl
                            have HRS2 := hid c2
                            have HC2 := hid c3
                            clear c1 c2 c3 HCA
                            go_wp2_with fail
                            refine (kres_ok HL5.out j s'.fails 0 HRS2.out).mono ?_
                            rintro e' w13 ⟨rfl, hk3⟩
                            have HR6 := hid ((HR5.out.quiet hk3).same s')
                            have HC3 := hid (HC2.out.quiet hk3)
                            have ce6 := HR6.out.eat HK8.out
                            have ze6 : w13.frozen? ⟨be, kk, none⟩ = false := free_of HR6.out.e _
                            clear hk3 cl5
                            go_wp2
                            go_meet
                            have hk9 : Keep (fun q => q = bl ∨ q = bo ∨ q = be) w13 (w13.setCell ⟨be, kk, none⟩ (.int .i64 j)) := (Keep.refl (fun q => q = bl ∨ q = bo ∨ q = be) w13).setCell (.inl (.inr (.inr rfl))) _
                            exact ⟨nx', n', _, own', _, rfl, rfl, HNX', hid (HC3.out.other hk9 HOG.out), hid (HR6.out.setE hne5 hne6 j)⟩
              case rest =>
                as_aux_lemma =>
                  obtain ⟨nx', n', K', own', en', hxv, hnv, HNX', HA5, HR5⟩ := hcut
                  subst hxv hnv
                  clear HAS HRW HNX HQE
                  go_wp2_with fail
                  refine (as_apart HA5.out HC.out _ rfl).mono ?_
                  rintro e w20 ⟨rfl, hk20⟩
                  have HA6 := hid (HA5.out.quiet hk20)
                  have HR6 := hid (HR5.out.quiet hk20)
                  clear hk20
                  go_wp2_with fail
                  refine (as_listed HA6.out HC.out bo be HR6.out.o HR6.out.e).mono ?_
                  rintro e w21 ⟨rfl, hk21⟩
                  have HA7 := hid (HA6.out.quiet hk21)
                  have HR7 := hid (HR6.out.quiet hk21)
                  clear hk21
                  go_wp2
                  go_roundw
                  case rel => (repeat apply Exists.intro); exact ⟨⟨i + 1, nx', n', K', own', en', by have := HH4.out; omega, HNX'.out, rfl, rfl, by go_num, HA7.out, HR7.out⟩, rfl⟩
                  case measure => have := HH4.out; simp [intOf]; omega
            · have d3 : decide ((0 : Int) < (ss.length : Int)) = false := decide_eq_false (by omega)
              have e3 : decide (0 < ss.length) = false := decide_eq_false hs0
              go_wp2_with fail
              refine kawake_ok.mono ?_
              rintro e w30 ⟨rfl, hk30⟩
              have HE := hid (HAS.out.own_.trans hk30 (fun _ _ h => h))
              clear hk30
              go_wp2
              go_ret
              exact ⟨rfl, HE.out⟩
          · have d2 : decide ((i : Int) < 400) = false := decide_eq_false (by omega)
            have e2 : decide (i < 400) = false := decide_eq_false h4
            go_wp2_with fail
            refine kawake_ok.mono ?_
            rintro e w30 ⟨rfl, hk30⟩
            have HE := hid (HAS.out.own_.trans hk30 (fun _ _ h => h))
            clear hk30
            go_wp2
            go_ret
            exact ⟨rfl, HE.out⟩
        · have d1 : decide ((i : Int) < (ds.length : Int)) = false := decide_eq_false (by omega)
          have e1 : decide (i < ds.length) = false := decide_eq_false hlt
          go_wp2_with fail
          refine kawake_ok.mono ?_
          rintro e w30 ⟨rfl, hk30⟩
          have HE := hid (HAS.out.own_.trans hk30 (fun _ _ h => h))
          clear hk30
          go_wp2
          go_ret
          exact ⟨rfl, HE.out⟩
end
end Go.Proofs.YtmafdjhjmnghcaaGreat
