/- rig.New. -/
import Derived.Test.YtldjlcdccnnogaaGreatRigCp
import Derived.Test.YtldjlcdccnnogaaGreatPrIn
set_option linter.unusedVariables false
set_option linter.unusedSimpArgs false
namespace Go.Lf
open Go.RowKit
def tcCells (l : List TC) : List Value := l.flatMap TC.cells
theorem tcCells_snoc (l : List TC) (t : TC) : tcCells (l ++ [t]) = tcCells l ++ t.cells := by simp [tcCells]
theorem tcCells_at {l : List TC} {k i : Nat} {t : TC} {u : Value} (h : l[k]? = some t) (hu : t.cells[i]? = some u) : (tcCells l)[k * 8 + i]? = some u := by
  induction l generalizing k with
  | nil => simp at h
  | cons z l ih =>
    have hz : z.cells.length = 8 := rfl
    have hi : i < 8 := (List.getElem?_eq_some_iff.1 hu).1
    cases k with
    | zero =>
      simp only [List.getElem?_cons_zero, Option.some.injEq] at h
      subst h
      rw [show 0 * 8 + i = i by omega]
      show (z.cells ++ tcCells l)[i]? = _
      rw [List.getElem?_append_left (by omega)]; exact hu
    | succ k =>
      have := ih (k := k) (by simpa using h)
      show (z.cells ++ tcCells l)[(k + 1) * 8 + i]? = _
      rw [List.getElem?_append_right (by omega), hz, show (k + 1) * 8 + i - 8 = k * 8 + i by omega]
      exact this
/-- A thread that is new. -/
def TC.new (v : Value) (ops : List (Int × Int)) : TC := ⟨v, ops, 0, none, none, 0, false, false, 0⟩
end Go.Lf
namespace Go.Proofs.YtldjlcdccnnogaaGreat
open Go.RowKit Go.Lf
theorem infoTh : (Tryz.prog.info? thTy).map (fun i => (i.zero, i.size, i.bytes)) = some (some (.agg #[.slice none 0 0, .int .i64 0, .pointer none, .pointer none, .int .u8 0, .bool false, .bool false, .int .u64 0]), 8, 64) := by kernel_rfl
/-- A machine that is being made: its threads so far. -/
structure RNw (w0 wz : World) (m : Nat) (tv : Value) (ts : List TC) : Prop where
  hm : wz.heap[m]? = some (.cells #[.pointer none, .pointer none, tv, .slice none 0 0, .int .i64 0, .map none] 56 (0, 0))
  row : wz.ownsRow 0 thTy 8 tv ts.length (tcCells ts)
  th : ∀ t ∈ ts, t = TC.new t.ov t.ops ∧ OpsWf t.ops ∧ t.ops.length ≤ 20 ∧ Rd wz 2 t.ov t.ops.length (rigCells t.ops) ∧ ∀ j, t.ov.ownBlock = some j → j ≠ m ∧ tv.ownBlock ≠ some j ∧ w0.heap.size ≤ j ∧ j < wz.heap.size
  nm : tv.ownBlock ≠ some m
  lo : ∀ j, tv.ownBlock = some j → w0.heap.size ≤ j
  mlo : w0.heap.size ≤ m
  kp : Keep Nil w0 wz
/-- While the threads of a new machine begin: k have begun. -/
structure NewLp (n : Nat) (bnd : Int → Nat) (k : Nat) (s : RgS) : Prop where
  l : s.l = []
  st : s.st = 0
  K : s.x.K ≤ k
  th : ∀ j, j < n → OpsWf (s.th j).ops ∧ (s.th j).ops.length ≤ 20 ∧ (s.th j).idx = 0
  dn : ∀ j, j < k → TOk (s.th j) s.x j
  nd : ∀ j, k ≤ j → j < n → s.x.T j = .idle ∧ (s.th j).ins = false
  tr : ∀ j, j < n → TRel .out (s.x.T j)
  rb : ∀ j set bg, j < n → s.x.T j = .wa set bg → s.x.R j ≤ bnd set
theorem NewLp.step {n k : Nat} {bnd : Int → Nat} {s : RgS} (h : NewLp n bnd k s) (hk : k < n) {x' : RX} {t' : TC} (hb : BegTo bnd s.x k x') (ht : TOk t' x' k) (ho : t'.ops = (s.th k).ops) (hi : t'.idx = (s.th k).idx) : NewLp n bnd (k + 1) ⟨s.l, s.st, upd s.th k t', x'⟩ := by
  obtain ⟨a1, a2, a3⟩ := h.th k hk
  refine ⟨h.l, h.st, ?_, fun j hj => ?_, fun j hj => ?_, fun j hj hjn => ?_, fun j hj => ?_, fun j set bg hj hw => ?_⟩
  · have := hb.K; have := h.K; show x'.K ≤ k + 1; omega
  · show OpsWf (upd s.th k t' j).ops ∧ (upd s.th k t' j).ops.length ≤ 20 ∧ (upd s.th k t' j).idx = 0
    by_cases e : j = k
    · subst e; rw [upd_self, ho, hi]; exact ⟨a1, a2, a3⟩
    · rw [upd_ne _ _ e]; exact h.th j hj
  · show TOk (upd s.th k t' j) x' j
    by_cases e : j = k
    · subst e; rw [upd_self]; exact ht
    · rw [upd_ne _ _ e]
      obtain ⟨p1, p2, p3⟩ := hb.ne j e
      exact (h.dn j (by omega)).other p1 p3
  · show x'.T j = .idle ∧ (upd s.th k t' j).ins = false
    rw [upd_ne _ _ (by omega), (hb.ne j (by omega)).1]
    exact h.nd j (by omega) hjn
  · show TRel .out (x'.T j)
    by_cases e : j = k
    · subst e
      rcases hb.tk with e | ⟨e1, ⟨v, e2⟩ | ⟨u, e2, e3⟩⟩
      · rw [e]; exact h.tr j hj
      · rw [e2]; rfl
      · rw [e2]; rfl
    · rw [(hb.ne j e).1]; exact h.tr j hj
  · have hw : x'.T j = .wa set bg := hw
    show x'.R j ≤ _
    by_cases e : j = k
    · subst e
      have hidle := (h.nd j (Nat.le_refl _) hj).1
      rcases hb.tk with e | ⟨e1, ⟨v, e2⟩ | ⟨u, e2, e3⟩⟩
      · rw [e, hidle] at hw; cases hw
      · rw [e2] at hw; cases hw
      · rw [e2] at hw; cases hw; exact e3
    · rw [(hb.ne j e).2.1]; exact h.rb j set bg hj (by rw [← (hb.ne j e).1]; exact hw)
theorem NewLp.done {n : Nat} {bnd : Int → Nat} {s : RgS} (h : NewLp n bnd n s) : RgG n bnd s := by
  have hl := h.l
  have hs := h.st
  refine ⟨⟨by rw [hl]; exact .nil, fun y hy => by rw [hl] at hy; simp at hy, fun k hk => by rw [hl]; exact h.tr k hk, fun t _ => by rw [hl]; rfl, fun t => (by rw [hl]; exact ⟨fun v q e => (by cases e), fun v q e => (by cases e)⟩), fun i set f hi hw => by rw [hl] at hw; cases hw⟩, h.dn, fun k hk => ?_, ?_, by rw [hl, hs]; exact Nat.le_refl _, h.rb⟩
  · obtain ⟨a1, a2, a3⟩ := h.th k hk
    exact ⟨by omega, by omega, a1⟩
  · have := h.K; omega
section
variable {w : World} {n nb : Nat}
def RNewTo (w : World) (n nb : Nat) (kd : Int) (e : Ending) (w' : World) : Prop :=
  ∃ (E : PrW n) (C : RgC) (A : Nat → Prop) (s : RgS), E.kind = kd ∧ EngIs nb E ∧ e = .returned (.tuple #[pb C.m, .int .i64 0]) ∧ (RigL E C).lie w' A s ∧ RgG n E.bnd s ∧ s.st = 0 ∧ s.l = [] ∧ Keep Nil w w' ∧ ∀ k, A k → w.heap.size ≤ k
set_option maxRecDepth 100000 in
set_option maxHeartbeats 8000000 in
theorem rnew_ok (kd : Int) (hkd : kd = 1 ∨ kd = 2 ∨ kd = 3) (hb0 : 1 ≤ nb) (hb : nb ≤ 4) (ps : List ProgV) (hn : ps.length = n) (h0 : 1 ≤ n) (h1 : n ≤ 6) (v : Value) (hrd : Rd w 1 v n (progCells ps)) (hw : ∀ y ∈ ps, ProgV.wf w y) (hl : ∀ y ∈ ps, y.ops.length ≤ 20) :
    Calls Tryz.prog 12 #[.int .u8 kd, .int .i64 (engBk kd nb), v] w (RNewTo w n nb kd) := by
  obtain ⟨pa, pc, hv, -⟩ := id hrd
  subst hv
  have HRD := hid hrd
  have HW := hid hw
  have HL := hid hl
  have d1 : decide ((n : Int) < 1) = false := decide_eq_false (by omega)
  have d2 : decide ((64 : Int) < (n : Int)) = false := decide_eq_false (by omega)
  have d3 : decide (n < 1) = false := decide_eq_false (by omega)
  have d4 : decide (64 < n) = false := decide_eq_false (by omega)
  have d5 : decide (n = 0) = false := decide_eq_false (by omega)
  have HWD := hid (show Calls Tryz.prog 25 #[.int .u8 kd, .int .i64 n, .int .i64 (engBk kd nb)] w fun e w' => e = .returned (.tuple #[.int .i64 ((engWords kd n nb : Nat) : Int), .int .i64 0]) ∧ w = w' by
    rcases hkd with rfl | rfl | rfl
    · exact prwords_full n h0 h1
    · exact prwords_each n h0 h1
    · exact prwords_gate n h0 h1 nb hb0 hb)
  have hNW : 1 ≤ engWords kd n nb ∧ engWords kd n nb ≤ 16 := by
    unfold engWords
    rcases hkd with rfl | rfl | rfl
    · rw [if_pos rfl]; omega
    · rw [if_neg (by decide), if_pos rfl]; omega
    · rw [if_neg (by decide), if_neg (by decide)]; omega
  generalize hNd : engWords kd n nb = N at *
  generalize hBd : engBk kd nb = bkv at *
  obtain ⟨W0, hW0⟩ : ∃ W0, W0 = w.alloc (.cells #[.pointer none, .pointer none, .slice none 0 0, .slice none 0 0, .int .i64 0, .map none] 56 (0, 0)) := ⟨_, rfl⟩
  have H0 := hid (show RNw w W0 w.heap.size (.slice none 0 0) [] from ⟨by rw [hW0]; exact heap_alloc_new _ _, World.ownsRow_nil _ _ _ _, fun t ht => (by cases ht), fun e => (by cases e), fun j e => (by cases e), Nat.le_refl _, by rw [hW0]; exact (Keep.refl _ _).alloc _⟩)
  clear hrd hw hl
  go_enter Tryz.func12, Tryz.ntmps12
  go_wp2_with fail
  refine HWD.out.mono ?_
  rintro e w' ⟨rfl, rfl⟩
  clear HWD
  go_wp2
  rw [← hW0]
  go_loopw [37] (fun iv wz => ∃ (k : Nat) (tv : Value) (ts : List TC), k ≤ n ∧ iv = .int .i64 (k : Int) ∧ Hid (RNw w wz w.heap.size tv ts) ∧ Hid (ts.map (·.ops) = (ps.take k).map (·.ops))) (fun iv _ => n - (intOf iv).toNat)
  case atStart => exact ⟨0, _, [], Nat.zero_le _, rfl, H0, hid rfl⟩
  case round =>
    obtain ⟨k, tv, ts, hk, rfl, HI, HE⟩ := hrel
    by_cases hlt : k < n
    · have e1 : decide ((k : Int) < (n : Int)) = true := decide_eq_true (by omega)
      have wi : IntKind.i64.wrap ((k : Int) + 1) = (k : Int) + 1 := by rw [IntKind.wrap_i64]; omega
      have i0 : (0 : Int) ≤ (k : Int) := by omega
      obtain ⟨y, hy⟩ : ∃ y, ps[k]? = some y := ⟨_, List.getElem?_eq_getElem (by omega)⟩
      have hym := List.mem_of_getElem? hy
      obtain ⟨ab, ao, ac, hve, hcl⟩ := Rd.cell HRD.out (by omega)
      simp only [Value.slice.injEq] at hve
      obtain ⟨rfl, -, rfl⟩ := hve
      obtain ⟨ya, yc, hyv, -⟩ := (HW.out y hym).rd
      have q0 := HI.out.kp.cell (hcl _ _ (progCells_at hy)) (fun h => h)
      have HYR := hid (rd_keep (HW.out y hym).rd HI.out.kp (fun _ _ e => e))
      rw [hyv] at q0 HYR
      have y20 := HL.out y hym
      have HYO := hid (HW.out y hym).ops
      have e2 : decide ((256 : Int) < (y.ops.length : Int)) = false := decide_eq_false (by omega)
      have e3 : decide (256 < y.ops.length) = false := decide_eq_false (by omega)
      have HQL := hid (show ts.length = k by have := congrArg List.length HE.out; simp at this; omega)
      have HTK := hid (show (ts.map (·.ops) ++ [y.ops]) = (ps.take (k + 1)).map (·.ops) by rw [take_snoc_ev hy, List.map_append, HE.out]; rfl)
      have c2 : wr.cell? ⟨w.heap.size, 2, none⟩ = some tv := by rw [cell_of HI.out.hm]; rfl
      obtain ⟨ta, tc', htv⟩ : ∃ ta tc', tv = .slice ta ts.length tc' := row_slice HI.out.row
      subst htv
      have hmz := lt_of_block HI.out.hm
      clear hcl hym hyv hy H0 hW0
      go_upto_region 12 with fail
      go_region_law (first
        | (refine step_app _ rfl (.const (.slice none 0 0)) (.tmp 49) 46 rfl 99 _ 2 16 Tryz.underlying46 infoRig rfl (by decide) (.slice none 0 0) 0 [] (by first | rfl | simp [Act.eval]) (World.ownsRow_nil _ _ _ _) (.slice ya y.ops.length yc) y.ops.length (rigCells y.ops) (by first | rfl | simp [Act.eval]) HYR.out (rigCells_one _) (by omega) (by unfold maxLen; omega) ?_; intro a5 c5 w5 ho5 hg5 hs5; have HO5 := hid ho5; have HG5 := hid hg5; have HS5 := hid hs5; have hb5 := (hg5.block w.heap.size (by simpa using hmz) (fun e => by cases e)).trans HI.out.hm; have HB5 := hid hb5; have lm5 : w.heap.size < w5.heap.size := lt_of_block hb5; have c5' : w5.cell? ⟨w.heap.size, 2, none⟩ = some (.slice ta ts.length tc') := (by rw [cell_of hb5]; rfl); clear ho5 hg5 hs5 hb5)
        | (refine step_app _ rfl (.tmp 48) (.tmp 53) 53 rfl thTy _ 8 64 Tryz.underlying53 infoTh rfl (by decide) (.slice ta ts.length tc') ts.length (tcCells ts) (by first | rfl | simp [Act.eval]) ((row_grown (row_drew HI.out.row) HG5.out (fun _ _ e => by cases e)).alloc _) _ 1 (TC.new (.slice a5 y.ops.length c5) y.ops).cells (by first | rfl | simp [Act.eval]) (rd_new _ _ _ _ _ _) (by simp [TC.new, TC.cells, pbO, Value.oneCell']) (by have := HQL.out; omega) (by have := HQL.out; unfold maxLen; omega) ?_; intro a6 c6 w6 ho6 hg6 hs6; have HO6 := hid ho6; have HG6 := hid hg6; have HS6 := hid hs6; have hb6 := (hg6.block w.heap.size (by have := lt_of_block HB5.out; simp; omega) (fun e => HI.out.nm e.symm)).trans (alloc_old HB5.out _); have HB6 := hid hb6; have c6' : w6.cell? ⟨w.heap.size, 2, none⟩ = some (.slice ta ts.length tc') := (by rw [cell_of hb6]; rfl); have f6' := free_of hb6 2; clear ho6 hg6 hs6 hb6))
      all_goals
        have z5 : wr.heap.size ≤ w5.heap.size := HG5.out.size
        have hs6' : ∀ j, (Value.slice a6 (ts.length + 1) c6).ownBlock = some j → (Value.slice ta ts.length tc').ownBlock = some j ∨ w5.heap.size < j := fun j hj => (HS6.out j hj).imp id (fun e => by simp at e; omega)
        have hr5 : Rd w5 2 (.slice a5 y.ops.length c5) y.ops.length (rigCells y.ops) := by simpa using row_rd HO5.out
        have z6 := HG6.out.size
        have b5 : ∀ j, (Value.slice a5 y.ops.length c5).ownBlock = some j → wr.heap.size ≤ j ∧ j < w5.heap.size := fun j hj => ⟨(HS5.out j (by simpa using hj)).elim (fun e => by cases e) id, (HO5.out.lt j (by simpa using hj)).2⟩
        have tlt : ∀ j, (Value.slice ta ts.length tc').ownBlock = some j → j < wr.heap.size := fun j hj => (HI.out.row.lt j hj).2
        have k56 : Keep (fun j => (Value.slice ta ts.length tc').ownBlock = some j ∨ j = w.heap.size) w5 (w6.setCell ⟨w.heap.size, 2, none⟩ (.slice a6 (ts.length + 1) c6)) := Keep.setCell (Keep.grown ((Keep.refl _ _).alloc _) HG6.out (fun j hj => .inl (.inl hj))) (.inl (.inr rfl)) _
        have kr5 : Keep (fun j => (Value.slice ta ts.length tc').ownBlock = some j ∨ j = w.heap.size) wr w5 := Keep.grown ((Keep.refl _ wr).drew) HG5.out (fun j hj => by cases hj)
        have kk := kr5.trans k56 (fun _ _ e => e)
        have HN := hid (show RNw w (w6.setCell ⟨w.heap.size, 2, none⟩ (.slice a6 (ts.length + 1) c6)) w.heap.size (.slice a6 (ts.length + 1) c6) (ts ++ [TC.new (.slice a5 y.ops.length c5) y.ops]) from by
          have nm6 : (Value.slice a6 (ts.length + 1) c6).ownBlock ≠ some w.heap.size := fun e => by
            rcases hs6' _ e with e | e
            · exact HI.out.nm e
            · omega
          refine ⟨by rw [set_same HB6.out]; rfl, ?_, fun t ht => ?_, nm6, fun j hj => ?_, Nat.le_refl _, HI.out.kp.trans kk (fun j hj e => ?_)⟩
          · rw [List.length_append, List.length_singleton, tcCells_snoc]
            exact ownsRow_setCell_other HO6.out nm6 _
          · rcases List.mem_append.1 ht with ht | ht
            · obtain ⟨p1, p2, p3, p4, p5⟩ := HI.out.th t ht
              refine ⟨p1, p2, p3, rd_keep p4 kk (fun j hj e => ?_), fun j hj => ?_⟩
              · obtain ⟨q1, q2, q3, q4⟩ := p5 j hj
                exact e.elim q2 q1
              · obtain ⟨q1, q2, q3, q4⟩ := p5 j hj
                refine ⟨q1, fun e => ?_, q3, by have := kk.size; omega⟩
                rcases hs6' _ e with e | e
                · exact q2 e
                · omega
            · rw [List.mem_singleton.1 ht]
              refine ⟨rfl, HYO.out, y20, rd_keep hr5 k56 (fun j hj e => ?_), fun j hj => ?_⟩
              · obtain ⟨q1, q2⟩ := b5 j hj
                rcases e with e | e
                · have := tlt j e; omega
                · omega
              · obtain ⟨q1, q2⟩ := b5 j hj
                have zz := HI.out.kp.size
                refine ⟨by omega, fun e => ?_, by omega, by have := k56.size; omega⟩
                rcases hs6' _ e with e | e
                · have := tlt j e; omega
                · omega
          · have zz := HI.out.kp.size
            rcases hs6' _ hj with e | e
            · exact HI.out.lo j e
            · omega
          · rcases e with e | e
            · have := HI.out.lo j e; omega
            · omega)
        clear z5 hs6' hr5 z6 b5 tlt k56 kr5 kk HO5 HG5 HS5 HB5 HO6 HG6 HS6 HB6 c5' c6' f6' q0 c2
        go_wp2
        go_roundw
        case rel => exact ⟨k + 1, _, _, by omega, by go_num, HN, hid (by rw [List.map_append]; exact HTK.out)⟩
        case measure => simp [intOf]; omega
    · obtain rfl : k = n := by omega
      have e1 : decide ((k : Int) < (k : Int)) = false := decide_eq_false (by omega)
      have HQL := hid (show ts.length = k by have := congrArg List.length HE.out; simp at this; omega)
      have HTE := hid (show ∀ t ∈ ts, True from fun _ _ => trivial)
      have q1 := make_u64 N (by omega)
      obtain ⟨ta, tc', htv⟩ : ∃ ta tc', tv = .slice ta ts.length tc' := row_slice HI.out.row
      rw [HQL.out] at htv
      subst htv
      have kA : Keep Nil wr (wr.alloc (.cells (List.replicate N (Value.int .u64 0)).toArray 41 (0, 0))) := (Keep.refl _ _).alloc _
      have HNW := hid (new_ok (.slice (some ⟨wr.heap.size, 0, none⟩) N N) (zws N) (wr.alloc (.cells (List.replicate N (Value.int .u64 0)).toArray 41 (0, 0))) (by
        rw [zws_len]
        have e : u64s (zws N) = List.replicate N (Value.int .u64 0) := by simp [u64s, zws]
        rw [e]
        exact rd_of_heap (heap_alloc_new _ _) (by simp)) (by rw [zws_len]; omega) (by rw [zws_len]; omega))
      have KA := hid kA
      have eA : (List.replicate N (Value.int .u64 0)).toArray = Array.replicate N (Value.int .u64 0) := by simp
      rw [eA] at HNW KA
      clear H0 hW0 kA HRD HW HL eA
      go_wp2_with fail
      refine HNW.out.mono ?_
      rintro e w2 ⟨b, F, rfl, hmem, k2, f2⟩
      have zA : wr.heap.size ≤ (wr.alloc (.cells (Array.replicate N (Value.int .u64 0)) 41 (0, 0))).heap.size := KA.out.size
      have o2 := k2.at (KA.out.at HI.out.hm (fun e => e)) (fun e => e)
      have lm := lt_of_block HI.out.hm
      have c0 : w2.cell? ⟨w.heap.size, 0, none⟩ = some (.pointer none) := by rw [cell_of o2]; rfl
      have f0 := free_of o2 0
      have o3 := set_same o2 (i := 0) (pb b)
      have c3 : (w2.setCell ⟨w.heap.size, 0, none⟩ (pb b)).cell? ⟨w.heap.size, 0, none⟩ = some (pb b) := by rw [cell_of o3]; rfl
      have k3 : Keep (fun j => j = w.heap.size) w2 (w2.setCell ⟨w.heap.size, 0, none⟩ (pb b)) := Keep.setCell (S := fun j => j = w.heap.size) (Keep.refl _ _) (.inl rfl) _
      have nF : ¬ F w.heap.size := fun e => (f2 _ e).elim id (fun e => by omega)
      have HPN := hid (prnew_any (n := k) (nb := nb) kd hkd h0 h1 hb0 hb (by rw [hNd]; exact hmem.keep k3 (fun j hj e => nF (e ▸ hj))))
      rw [hBd] at HPN
      have K23 := hid ((KA.out.trans k2 (fun _ _ e => e)).mono (T := fun j => j = w.heap.size) (fun _ _ e => e.elim) |>.trans k3 (fun _ _ e => e))
      have FF := hid (show ∀ j, F j → wr.heap.size ≤ j from fun j hj => (f2 j hj).elim (fun e => e.elim) (fun e => by omega))
      have O3 := hid o3
      have Z23 := hid (show wr.heap.size ≤ w2.heap.size by have := k2.size; omega)
      clear HNW hmem k2 f2 o2 o3 k3 nF zA
      go_wp2_with fail
      refine HPN.out.mono ?_
      rintro e w4 ⟨E, hEk, hEI, rfl, k4, A, hlie, hAA⟩
      have o4 := k4.at O3.out (fun e => e)
      have c1 : w4.cell? ⟨w.heap.size, 1, none⟩ = some (.pointer none) := by rw [cell_of o4]; rfl
      have f1 := free_of o4 1
      have o5 := set_same o4 (i := 1) (pb E.p)
      obtain ⟨W5, hW5⟩ : ∃ W5, W5 = w4.setCell ⟨w.heap.size, 1, none⟩ (pb E.p) := ⟨_, rfl⟩
      have k5 : Keep (fun j => j = w.heap.size) w4 W5 := by rw [hW5]; exact Keep.setCell (S := fun j => j = w.heap.size) (Keep.refl _ _) (.inl rfl) _
      rw [← hW5] at o5
      have z4 := k4.size
      have z5 := k5.size
      have z3 : w2.heap.size ≤ (w2.setCell ⟨w.heap.size, 0, none⟩ (pb b)).heap.size := by simp [World.setCell]
      have nA : ¬ A w.heap.size := fun e => (hAA _ e).elim (fun e => by have := FF.out _ e; omega) (fun e => by have := Z23.out; omega)
      have HLI := hid (E.P.keep hlie k5 (fun j hj e => nA (e ▸ hj)))
      have HAB := hid (show ∀ j, A j → wr.heap.size ≤ j ∧ j < W5.heap.size from fun j hj => ⟨(hAA j hj).elim (fun e => FF.out _ e) (fun e => by have := Z23.out; omega), by have := E.P.lt hlie j hj; omega⟩)
      have K5 := hid ((K23.out.trans (k4.mono (T := fun j => j = w.heap.size) (fun _ _ e => e.elim)) (fun _ _ e => e)).trans k5 (fun _ _ e => e))
      have O5 := hid o5
      have lmW : w.heap.size < W5.heap.size := lt_of_block o5
      have HM := hid (MapAt.new W5)
      have hmm := @run_makeMap Tryz.prog
      have KQ := hid (Keep.refl (fun j => j = W5.heap.size) (W5.alloc (.map #[] 0)))
      have zW : W5.heap.size = w4.heap.size := by rw [hW5]; simp [World.setCell]
      rw [zW] at HM KQ lmW HAB
      clear HPN k4 hlie hAA o4 o5 k5 z4 z5 z3 nA Z23 FF c0 f0 c3 O3
      subst hW5
      go_wp2_with (refine wpList_ins rfl (.tmp 89) _ _ 54 rfl Tryz.underlying54 Tryz.underlying5 _ rfl _ HM.out _ rfl _ rfl rfl ?_; intro wq cq hm hk hz; have KQ := hid (KQ.out.trans hk (fun q hlt e => e)); have HM := hid hm; have hb5 := KQ.out.at (alloc_old O5.out (.map #[] 0)) (fun e => by omega); have HB5 := hid hb5; have c5q : wq.cell? ⟨w.heap.size, 5, none⟩ = some (.map none) := (by rw [cell_of hb5]; rfl); have c2q : wq.cell? ⟨w.heap.size, 2, none⟩ = some (.slice ta k tc') := (by rw [cell_of hb5]; rfl); have f5q := free_of hb5 5; clear hm hk hz hb5)
      go_wp2
      obtain ⟨V, hV⟩ : ∃ V, V = wq.setCell ⟨w.heap.size, 5, none⟩ (.map (some w4.heap.size)) := ⟨_, rfl⟩
      rw [← hV]
      have zq := KQ.out.size
      have zq0 : ((w4.setCell ⟨w.heap.size, 1, none⟩ (pb E.p)).alloc (.map #[] 0)).heap.size = w4.heap.size + 1 := by simp [World.setCell]
      have zw5 : (w4.setCell ⟨w.heap.size, 1, none⟩ (pb E.p)).heap.size = w4.heap.size := by simp [World.setCell]
      have zk := K5.out.size
      have kV : Keep (fun j => j = w.heap.size) wq V := by rw [hV]; exact Keep.setCell (S := fun j => j = w.heap.size) (Keep.refl _ _) (.inl rfl) _
      have k5V : Keep (fun j => j = w.heap.size ∨ j = w4.heap.size) (w4.setCell ⟨w.heap.size, 1, none⟩ (pb E.p)) V := (((Keep.refl _ _).alloc _).trans KQ.out (fun j hj e => .inr e)).trans kV (fun j hj e => .inl e)
      have kAll : Keep (fun j => j = w.heap.size) wr V := K5.out.trans k5V (fun j hj e => e.elim id (fun e => by omega))
      have zV := k5V.size
      have zV2 := kV.size
      have hmV : RgHead V w.heap.size (pb b) E.p 0 0 0 (.slice none 0 0) 0 0 ∨ True := .inr trivial
      obtain ⟨g, cap, cur, hge, hbg, hg, hnc, hcm, hcs, htk⟩ : ∃ g cap cur, Value.slice ta k tc' = .slice (some ⟨g, 0, none⟩) k cap ∧ 0 ≤ g ∧ wr.heap[g]? = some (.cells cur thTy (0, 0)) ∧ k ≤ cap ∧ cap ≤ maxLen ∧ cur.size = cap * 8 ∧ cur.toList.take (ts.length * 8) = tcCells ts := by
        have hrow := HI.out.row
        rw [HQL.out] at hrow
        rcases hrow.2 with ⟨e, hx⟩ | ⟨g, cap, cur, e, q0, q1, q2, q3, q4, q5⟩
        · exfalso
          simp only [Value.slice.injEq] at e
          omega
        · exact ⟨g, cap, cur, e, q0, q1, q2, q3, q4, by rw [HQL.out]; exact q5⟩
      simp only [Value.slice.injEq] at hge
      obtain ⟨rfl, -, rfl⟩ := hge
      have nmg : g ≠ w.heap.size := fun e => HI.out.nm (by rw [← e]; rfl)
      have lg := lt_of_block hg
      have hmd : RgHead V w.heap.size (pb b) E.p g k tc' (.slice none 0 0) 0 w4.heap.size := by unfold RgHead; rw [hV, set_same HB5.out]; rfl
      have hkn : RKinds V w.heap.size w4.heap.size := ⟨_, _, _, HM.out.keep kV (by omega)⟩
      have hts : ∀ j t, ts[j]? = some t → t ∈ ts := fun j t h => List.mem_of_getElem? h
      obtain ⟨C, hC⟩ : ∃ C : RgC, C = ⟨w.heap.size, g, w4.heap.size, tc', pb b, fun j => j = w.heap.size ∨ j = g ∨ j = w4.heap.size ∨ ∃ t ∈ ts, t.ov.ownBlock = some j⟩ := ⟨_, rfl⟩
      obtain ⟨s0, hs0⟩ : ∃ s0 : RgS, s0 = ⟨[], 0, fun j => (ts[j]?).getD (TC.new (.slice none 0 0) []), RX.zero⟩ := ⟨_, rfl⟩
      have hthj : ∀ j, j < k → ∃ t, ts[j]? = some t ∧ s0.th j = t := fun j hj => by
        obtain ⟨t, ht⟩ : ∃ t, ts[j]? = some t := ⟨_, List.getElem?_eq_getElem (by have := HQL.out; omega)⟩
        exact ⟨t, ht, by rw [hs0]; show (ts[j]?).getD _ = t; rw [ht]; rfl⟩
      have HL0 := hid (show ∃ A', (RigL E C).lie V A' s0 ∧ Keep Nil w V ∧ ∀ i, A' i → w.heap.size ≤ i from by
        refine ⟨fun j => A j ∨ C.Bk j ∨ (Value.slice none 0 0).ownBlock = some j, ⟨A, cur, .slice none 0 0, ⟨by rw [hC, hs0]; exact hmd, by rw [hC]; exact kAll.at hg nmg, fun j hj => ?_, by rw [hC]; exact hkn, fun j hj => ?_, by rw [hs0]; exact World.ownsRow_nil _ _ _ _, ?_, by rw [hC]; exact hnc, by rw [hC]; exact .inl rfl, by rw [hC]; exact .inr (.inl rfl), by rw [hC]; exact .inr (.inr (.inl rfl)), fun j hj => ?_, fun j e => by cases e⟩, fun _ => Iff.rfl⟩, HI.out.kp.trans kAll (fun j hj e => by omega), fun j hj => ?_⟩
        · obtain ⟨t, ht, e⟩ := hthj j hj
          rw [e]
          intro i u hu
          have h1 := tcCells_at ht hu
          have hi : i < 8 := (List.getElem?_eq_some_iff.1 hu).1
          rw [← htk, List.getElem?_take] at h1
          split at h1
          · simpa using h1
          · cases h1
        · obtain ⟨t, ht, e⟩ := hthj j hj
          obtain ⟨p1, p2, p3, p4, p5⟩ := HI.out.th t (hts j t ht)
          rw [e]
          refine ⟨rd_keep p4 kAll (fun i hi => (p5 i hi).1), by omega, fun i hi => ?_⟩
          obtain ⟨q1, q2, q3, q4⟩ := p5 i hi
          rw [hC]
          exact ⟨.inr (.inr (.inr ⟨t, hts j t ht, hi⟩)), fun e => q2 (by rw [e]; rfl), q1, by have := kAll.size; omega⟩
        · rw [hs0]
          exact E.P.keep HLI.out k5V (fun j hj e => by have := HAB.out j hj; rcases e with e | e <;> omega)
        · rw [hC] at hj
          have ha : ∀ i, i < wr.heap.size → ¬ A i := fun i hi e => by have := (HAB.out i e).1; omega
          rcases hj with e | e | e | ⟨t, ht, e⟩
          · subst e; exact ⟨by omega, ha _ lm⟩
          · subst e; exact ⟨by omega, ha _ lg⟩
          · subst e; exact ⟨by omega, fun e => by have := (HAB.out _ e).2; omega⟩
          · obtain ⟨p1, p2, p3, p4, p5⟩ := HI.out.th t ht
            obtain ⟨q1, q2, q3, q4⟩ := p5 j e
            exact ⟨by have := kAll.size; omega, ha _ q4⟩
        · have zwr := HI.out.kp.size
          rcases hj with e | e | e
          · have := (HAB.out j e).1; omega
          · rw [hC] at e
            rcases e with e | e | e | ⟨t, ht, e⟩
            · omega
            · subst e; exact HI.out.lo j rfl
            · omega
            · obtain ⟨p1, p2, p3, p4, p5⟩ := HI.out.th t ht
              exact (p5 j e).2.2.1
          · cases e)
      have HP0 := hid (show NewLp k E.bnd 0 s0 from by
        refine ⟨by rw [hs0], by rw [hs0], by rw [hs0]; exact Nat.le_refl _, fun j hj => ?_, fun j hj => by omega, fun j _ hj => ?_, fun j hj => by rw [hs0]; rfl, fun j set bg hj e => by rw [hs0] at e; cases e⟩
        · obtain ⟨t, ht, e⟩ := hthj j hj
          obtain ⟨p1, p2, p3, p4, p5⟩ := HI.out.th t (hts j t ht)
          rw [e]
          exact ⟨p2, p3, by rw [p1]; rfl⟩
        · obtain ⟨t, ht, e⟩ := hthj j hj
          obtain ⟨p1, p2, p3, p4, p5⟩ := HI.out.th t (hts j t ht)
          rw [e]
          exact ⟨by rw [hs0]; rfl, by rw [p1]; rfl⟩)
      have HCm := hid (show C.m = w.heap.size by rw [hC])
      clear hV zq zq0 zw5 zk kV k5V kAll zV zV2 hmV hbg hg hnc hcm hcs htk nmg lg hmd hkn hts hthj hs0 hC KQ HM HB5 c5q c2q f5q K5 HLI HAB O5 hmm
      go_loopw [104] (fun iv wz => ∃ (j : Nat) (s : RgS), j ≤ k ∧ iv = .int .i64 (j : Int) ∧ Hid (∃ A', (RigL E C).lie wz A' s ∧ Keep Nil w wz ∧ ∀ i, A' i → w.heap.size ≤ i) ∧ Hid (NewLp k E.bnd j s)) (fun iv _ => k - (intOf iv).toNat)
      case atStart => exact ⟨0, s0, Nat.zero_le _, rfl, HL0, HP0⟩
      case round =>
        obtain ⟨j, s, hj, rfl, HL, HP⟩ := hrel
        by_cases hjk : j < k
        · have e2 : decide ((j : Int) < (k : Int)) = true := decide_eq_true (by omega)
          have wj : IntKind.i64.wrap ((j : Int) + 1) = (j : Int) + 1 := by rw [IntKind.wrap_i64]; omega
          obtain ⟨A', ⟨A0', arr', ev', hR, hRA⟩, hkp, hlo⟩ := HL.out
          obtain ⟨t1, t2, t3⟩ := HP.out.th j hjk
          obtain ⟨t4, t5⟩ := HP.out.nd j (Nat.le_refl _) hjk
          have HB := hid (rbeginL hR hRA hjk (by have := HP.out.K; omega) ⟨by rw [t4, t5]; rfl, (fun e => by rw [t5] at e; cases e), by omega⟩ t1)
          rw [HCm.out] at HB
          have HKP := hid hkp
          have HLO := hid hlo
          clear hR hRA hkp hlo t1 t2 t3 t4 t5 HL0 HP0
          go_wp2_with fail
          refine HB.out.mono ?_
          rintro e w7 ⟨rfl, x', t', b1, b2, b3, b4, b5, A7, l7, k7, f7⟩
          have z0 := HKP.out.size
          have HN := hid (show ∃ A', (RigL E C).lie w7 A' ⟨s.l, s.st, upd s.th j t', x'⟩ ∧ Keep Nil w w7 ∧ ∀ i, A' i → w.heap.size ≤ i from ⟨A7, l7, HKP.out.trans k7 (fun i hi e => by have := HLO.out i e; omega), fun i hi => (f7 i hi).elim (fun e => HLO.out i e) (fun e => by omega)⟩)
          have HNP := hid (HP.out.step hjk b1 b2 b4 b5)
          clear HB l7 k7 f7 b1 b2 b3 b4 b5 z0
          go_wp2
          go_roundw
          case rel => exact ⟨j + 1, _, by omega, by go_num, HN, HNP⟩
          case measure => simp [intOf]; omega
        · obtain rfl : j = k := by omega
          have e2 : decide ((j : Int) < (j : Int)) = false := decide_eq_false (by omega)
          go_wp2
          go_ret2
          obtain ⟨A', hlie, hkp, hlo⟩ := HL.out
          exact ⟨E, C, A', s, hEk, hEI, by rw [HCm.out]; rfl, hlie, HP.out.done, HP.out.st, HP.out.l, hkp, hlo⟩
end
end Go.Proofs.YtldjlcdccnnogaaGreat
