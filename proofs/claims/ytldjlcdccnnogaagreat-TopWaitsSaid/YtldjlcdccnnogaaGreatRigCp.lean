/- CopyRigs, CopyRigs2, short, Events. -/
import Derived.Test.YtldjlcdccnnogaaGreatOpenRigs
import Derived.Test.YtldjlcdccnnogaaGreatRigJ
import Derived.Deep.RegionHeld3
import Derived.Deep.DeepCutAuto
set_option linter.unusedVariables false
set_option linter.unusedSimpArgs false
namespace Go.Proofs.YtldjlcdccnnogaaGreat
open Go.RowKit Go.Lf
theorem infoRig : (Tryz.prog.info? 99).map (fun i => (i.zero, i.size, i.bytes)) = some (some (.agg #[.int .u8 0, .int .u64 0]), 2, 16) := by kernel_rfl
theorem infoRigs : (Tryz.prog.info? 46).map (fun i => (i.zero, i.size, i.bytes)) = some (some (.slice none 0 0), 1, 24) := by kernel_rfl
theorem rigCells_one (l : List (Int × Int)) : ∀ u ∈ rigCells l, u.oneCell' = true := by
  intro u hu
  simp only [rigCells, List.mem_flatMap] at hu
  obtain ⟨p, -, hu⟩ := hu
  simp only [List.mem_cons, List.not_mem_nil, or_false] at hu
  rcases hu with rfl | rfl <;> rfl
theorem evCells_one (l : List EvR) : ∀ u ∈ evCells l, u.oneCell' = true := by
  intro u hu
  simp only [evCells, List.mem_flatMap] at hu
  obtain ⟨p, -, hu⟩ := hu
  simp only [EvR.cells, List.mem_cons, List.not_mem_nil, or_false] at hu
  rcases hu with rfl | rfl | rfl | rfl <;> rfl
section
variable {w : World}
/-- A program is copied. -/
def CprTo (w : World) (l : List (Int × Int)) (e : Ending) (w' : World) : Prop := ∃ v, e = .returned v ∧ w'.ownsRow 0 99 2 v l.length (rigCells l) ∧ Keep Nil w w' ∧ ∀ k, v.ownBlock = some k → w.heap.size ≤ k
set_option maxHeartbeats 2000000 in
theorem cpr_ok (l : List (Int × Int)) (v : Value) (hrd : Rd w 2 v l.length (rigCells l)) (hm : l.length ≤ 1000) : Calls Tryz.prog 31 #[v] w (CprTo w l) := by
  have HRD := hid hrd
  obtain ⟨a, cp, rfl, -⟩ := hrd
  go_enter Tryz.func31, Tryz.ntmps31
  go_wp2_with (at_builtin; refine wpList_app _ rfl _ _ 46 rfl 99 _ 2 16 Tryz.underlying46 infoRig rfl (by decide) (.slice none 0 0) 0 [] rfl ?own (.slice a l.length cp) l.length (rigCells l) rfl ?rd ?one ?byt ?len ?_)
  case own => exact World.ownsRow_nil _ _ _ _
  case rd => exact HRD.out
  case one => exact rigCells_one _
  case byt => omega
  case len => unfold maxLen; omega
  intro a2 c2 w1 ho hg hs
  have HO := hid ho
  have HG := hid hg
  have HS := hid hs
  clear ho hg hs
  go_wp2
  go_ret
  refine ⟨_, rfl, by simpa using HO.out, Keep.grown (Keep.refl Nil w) HG.out (fun k e => by cases e), fun k e => (HS.out k (by simpa using e)).elim (fun e => by cases e) id⟩
/-- Events are copied. -/
def EvsTo (w : World) (l : List EvR) (e : Ending) (w' : World) : Prop := ∃ v, e = .returned v ∧ Rd w' 4 v l.length (evCells l) ∧ Keep Nil w w'
set_option maxHeartbeats 2000000 in
theorem events_ok {n : Nat} {E : PrW n} {C : RgC} {A0 : Nat → Prop} {arr : Array Value} {ev : Value} {s : RgS} (h : RgAt E C w A0 arr ev s) (hm : s.l.length ≤ 100000) : Calls Tryz.prog 9 #[pb C.m] w (EvsTo w s.l) := by
  have HR := hid h.row
  have m3 := h.hm.cells.2.2.2.1
  obtain ⟨ea, ec, rfl⟩ : ∃ ea ec, ev = .slice ea s.l.length ec := row_slice h.row
  clear h
  go_enter Tryz.func9, Tryz.ntmps9
  go_wp2_with (at_builtin; refine wpList_app _ rfl _ _ 37 rfl 43 _ 4 32 Tryz.underlying37 infoEvt rfl (by decide) (.slice none 0 0) 0 [] rfl ?own (.slice ea s.l.length ec) s.l.length (evCells s.l) rfl ?rd ?one ?byt ?len ?_)
  case own => exact World.ownsRow_nil _ _ _ _
  case rd => exact row_rd HR.out
  case one => exact evCells_one _
  case byt => omega
  case len => unfold maxLen; omega
  intro a2 c2 w1 ho hg hs
  have HO := hid ho
  have HG := hid hg
  clear ho hg hs
  go_wp2
  go_ret
  refine ⟨_, rfl, by simpa using row_rd HO.out, Keep.grown (Keep.refl Nil w) HG.out (fun k e => by cases e)⟩
/-- Programs that have been copied so far. -/
structure CpIn (w wz : World) (vo : Value) (ps : List ProgV) : Prop where
  row : wz.ownsRow 0 46 1 vo ps.length (progCells ps)
  wf : ∀ y ∈ ps, ProgV.wf wz y
  ap : ∀ y ∈ ps, ∀ j, y.v.ownBlock = some j → vo.ownBlock ≠ some j ∧ j < wz.heap.size
  lo : ∀ j, vo.ownBlock = some j → w.heap.size ≤ j
  kp : Keep Nil w wz
def Cp2To (w : World) (ps : List ProgV) (e : Ending) (w' : World) : Prop := ∃ v qs, e = .returned v ∧ CpIn w w' v qs ∧ qs.map (·.ops) = ps.map (·.ops)
theorem progCells_len (l : List ProgV) : (progCells l).length = l.length := by
  induction l with
  | nil => rfl
  | cons y l ih => simp only [progCells, List.flatMap_cons, List.length_append, List.length_cons, List.length_nil] at ih ⊢; omega
theorem progCells_at {l : List ProgV} {k : Nat} {y : ProgV} (h : l[k]? = some y) : (progCells l)[k]? = some y.v := by
  induction l generalizing k with
  | nil => simp at h
  | cons z l ih =>
    cases k with
    | zero => simp at h; subst h; rfl
    | succ k => exact ih (by simpa using h)
theorem progCells_snoc (l : List ProgV) (y : ProgV) : progCells (l ++ [y]) = progCells l ++ [y.v] := by simp [progCells]
set_option maxHeartbeats 4000000 in
theorem cp2_ok (ps : List ProgV) (v : Value) (hrd : Rd w 1 v ps.length (progCells ps)) (hw : ∀ y ∈ ps, ProgV.wf w y) (hl : ∀ y ∈ ps, y.ops.length ≤ 20) (hm : ps.length ≤ 6) : Calls Tryz.prog 13 #[v] w (Cp2To w ps) := by
  obtain ⟨pa, pc, hv, -⟩ := id hrd
  subst hv
  have HRD := hid hrd
  have HW := hid hw
  have HL := hid hl
  have H0 := hid (show CpIn w w (.slice none 0 0) [] from ⟨World.ownsRow_nil _ _ _ _, fun y hy => (by cases hy), fun y hy => (by cases hy), fun j hj => (by cases hj), Keep.refl _ _⟩)
  clear hrd hw hl
  go_enter Tryz.func13, Tryz.ntmps13
  go_wp2
  go_loopw [3, 4] (fun ov iv wz => ∃ (k : Nat) (vo : Value) (qs : List ProgV), k ≤ ps.length ∧ iv = .int .i64 (k : Int) ∧ ov = vo ∧ Hid (CpIn w wz vo qs) ∧ Hid (qs.map (·.ops) = (ps.take k).map (·.ops))) (fun _ iv _ => ps.length - (intOf iv).toNat)
  case atStart => exact ⟨0, _, [], Nat.zero_le _, rfl, rfl, H0, hid rfl⟩
  case round =>
    obtain ⟨k, vo, qs, hk, rfl, hvo, HI, HE⟩ := hrel
    obtain rfl : vo = _ := hvo.symm
    clear H0
    by_cases hlt : k < ps.length
    · have d1 : decide ((k : Int) < (ps.length : Int)) = true := decide_eq_true (by omega)
      have wi : IntKind.i64.wrap ((k : Int) + 1) = (k : Int) + 1 := by rw [IntKind.wrap_i64]; omega
      have i0 : (0 : Int) ≤ (k : Int) := by omega
      obtain ⟨y, hy⟩ : ∃ y, ps[k]? = some y := ⟨_, List.getElem?_eq_getElem hlt⟩
      have hym := List.mem_of_getElem? hy
      obtain ⟨ab, ao, ac, hve, hcl⟩ := Rd.cell HRD.out (by omega)
      simp only [Value.slice.injEq] at hve
      obtain ⟨rfl, -, rfl⟩ := hve
      have q0 : wr.cell? ⟨ab, ao + k, none⟩ = some y.v := HI.out.kp.cell (hcl _ _ (progCells_at hy)) (fun h => h)
      have HC := hid (cpr_ok y.ops y.v (rd_keep (HW.out y hym).rd HI.out.kp (fun _ _ h => h)) (by have := HL.out y hym; omega))
      have HQL := hid (show qs.length = k by have := congrArg List.length HE.out; simp at this; omega)
      have HYO := hid (HW.out y hym).ops
      have HTK := hid (show (qs.map (·.ops) ++ [y.ops]) = (ps.take (k + 1)).map (·.ops) by rw [take_snoc_ev hy, List.map_append, HE.out]; rfl)
      clear hcl hy hym
      go_wp2_with fail
      refine HC.out.mono ?_
      rintro e w1 ⟨v1, rfl, hr1, hk1, hb1⟩
      obtain ⟨a1, c1, rfl⟩ := row_slice hr1
      have HR1 := hid hr1
      have HK1 := hid hk1
      have HB1 := hid hb1
      clear HC hr1 hk1 hb1 q0 d1
      go_wp2_with (at_builtin; refine wpList_app _ rfl (.tmp 11) (.tmp 17) 22 rfl 46 _ 1 24 Tryz.underlying22 infoRigs rfl (by decide) vo qs.length (progCells qs) rfl ?own _ 1 [.slice a1 y.ops.length c1] rfl ?rd ?one ?byt ?len ?_)
      case own => exact (row_keep HI.out.row HK1.out (fun _ _ e => e)).alloc _
      case rd => exact rd_new _ _ _ _ _ _
      case one => simp [Value.oneCell']
      case byt => have := HQL.out; omega
      case len => have := HQL.out; unfold maxLen; omega
      intro a2 c2 w2 ho hg hs
      have z1 := HK1.out.size
      have z2 : (w1.alloc (.cells #[.slice a1 y.ops.length c1] 46)).heap.size = w1.heap.size + 1 := by simp
      have z3 := hg.size
      have vlt : ∀ j, vo.ownBlock = some j → j < wr.heap.size := fun j hj => (HI.out.row.lt j hj).2
      have kk : Keep (fun j => vo.ownBlock = some j) wr w2 := Keep.grown ((HK1.out.mono (fun _ _ e => e.elim)).alloc _) hg (fun j hj => .inl hj)
      have k12 : Keep (fun j => vo.ownBlock = some j) w1 w2 := Keep.grown ((Keep.refl _ _).alloc _) hg (fun j hj => .inl hj)
      have HN := hid (show CpIn w w2 (.slice a2 (qs.length + 1) c2) (qs ++ [⟨.slice a1 y.ops.length c1, y.ops⟩]) from by
        refine ⟨by rw [List.length_append, List.length_singleton, progCells_snoc]; exact ho, fun z hz => ?_, fun z hz j hj => ?_, fun j hj => ?_, ?_⟩
        · rcases List.mem_append.1 hz with hz | hz
          · obtain ⟨h1, h2⟩ := HI.out.wf z hz
            exact ⟨rd_keep h1 kk (fun j hj e => (HI.out.ap z hz j hj).1 e), h2⟩
          · rw [List.mem_singleton.1 hz]
            exact ⟨rd_keep (row_rd HR1.out) k12 (fun j hj e => by have := HB1.out j hj; have := vlt j e; omega), HYO.out⟩
        · rcases List.mem_append.1 hz with hz | hz
          · obtain ⟨h1, h2⟩ := HI.out.ap z hz j hj
            refine ⟨fun e => ?_, by omega⟩
            rcases hs j e with e | e
            · exact h1 e
            · omega
          · rw [List.mem_singleton.1 hz] at hj
            have l1 := HB1.out j hj
            have l2 := (HR1.out.lt j hj).2
            refine ⟨fun e => ?_, by omega⟩
            rcases hs j e with e | e
            · have := vlt j e; omega
            · omega
        · have z0 := HI.out.kp.size
          rcases hs j hj with e | e
          · exact HI.out.lo j e
          · omega
        · exact HI.out.kp.trans kk (fun j hj e => by have := HI.out.lo j e; omega))
      clear ho hg hs z1 z2 z3 vlt kk k12 HR1 HK1 HB1
      go_wp2
      go_roundw
      case rel => exact ⟨k + 1, _, _, by omega, by go_num, rfl, HN, hid (by rw [List.map_append]; exact HTK.out)⟩
      case measure => simp [intOf]; omega
    · obtain rfl : k = ps.length := by omega
      have d1 : decide ((ps.length : Int) < (ps.length : Int)) = false := decide_eq_false (by omega)
      go_wp2
      go_ret
      exact ⟨_, _, rfl, HI.out, by rw [HE.out, List.take_length]⟩
/-- Whether a rig is short. -/
def rShort (z : RigsV) (most : Nat) : Bool := decide (1 ≤ z.ps.length ∧ z.ps.length ≤ 6 ∧ z.picks.length ≤ most) && z.ps.all fun y => decide (y.ops.length ≤ 20)
set_option maxHeartbeats 4000000 in
theorem short_any (z : RigsV) (hz : RigsArg w z) (most : Nat) (hb : most ≤ 1000) : Calls Tryz.prog 5 #[z.val, .int .i64 most] w fun e w' => e = .returned (.bool (rShort z most)) ∧ Keep Nil w w' := by
  obtain ⟨pa, pc, hv, -⟩ := id hz.rp
  obtain ⟨ka, kc, hv2, -⟩ := id hz.rk
  obtain ⟨kind, bk, pv, ps, kv, picks⟩ := z
  simp only at hv hv2
  subst hv hv2
  have HRD := hid hz.rp
  have HW := hid hz.ps
  simp only at HRD HW
  clear hz
  obtain ⟨W0, hW0⟩ : ∃ W0, W0 = w.alloc (.cells #[.int .u8 kind, .int .u8 bk, .slice pa ps.length pc, .slice ka picks.length kc] 25 (0, 0)) := ⟨_, rfl⟩
  have k0 : Keep Nil w W0 := by rw [hW0]; exact (Keep.refl _ _).alloc _
  have o0 : W0.heap[w.heap.size]? = some (.cells #[.int .u8 kind, .int .u8 bk, .slice pa ps.length pc, .slice ka picks.length kc] 25 (0, 0)) := by rw [hW0]; exact heap_alloc_new _ _
  have x2 : W0.cell? ⟨w.heap.size, 2, none⟩ = some (.slice pa ps.length pc) := by rw [cell_of o0]; rfl
  have x3 : W0.cell? ⟨w.heap.size, 3, none⟩ = some (.slice ka picks.length kc) := by rw [cell_of o0]; rfl
  have KK := hid k0
  unfold RigsV.val
  simp only
  by_cases hs : 1 ≤ ps.length ∧ ps.length ≤ 6 ∧ picks.length ≤ most
  · obtain ⟨s1, s2, s3⟩ := hs
    have d1 : decide ((ps.length : Int) < 1) = false := decide_eq_false (by omega)
    have d2 : decide ((6 : Int) < (ps.length : Int)) = false := decide_eq_false (by omega)
    have d3 : decide ((most : Int) < (picks.length : Int)) = false := decide_eq_false (by omega)
    have d4 : decide (ps.length < 1) = false := decide_eq_false (by omega)
    have d5 : decide (6 < ps.length) = false := decide_eq_false (by omega)
    have d6 : decide (most < picks.length) = false := decide_eq_false (by omega)
    have d7 : decide (ps.length = 0) = false := decide_eq_false (by omega)
    have hsh : rShort ⟨kind, bk, .slice pa ps.length pc, ps, .slice ka picks.length kc, picks⟩ most = ps.all fun y => decide (y.ops.length ≤ 20) := by unfold rShort; simp only; rw [decide_eq_true (show 1 ≤ ps.length ∧ ps.length ≤ 6 ∧ picks.length ≤ most from ⟨s1, s2, s3⟩), Bool.true_and]
    rw [hsh]
    clear k0 o0 hsh
    subst hW0
    go_enter Tryz.func5, Tryz.ntmps5
    go_wp2
    generalize hW0 : w.alloc (.cells #[.int .u8 kind, .int .u8 bk, .slice pa ps.length pc, .slice ka picks.length kc] 25 (0, 0)) = W0 at *
    go_loopw [5] (fun iv wz => ∃ k : Nat, k ≤ ps.length ∧ iv = .int .i64 (k : Int) ∧ wz = W0 ∧ Hid (∀ (j : Nat) (y : ProgV), j < k → ps[j]? = some y → y.ops.length ≤ 20)) (fun iv _ => ps.length - (intOf iv).toNat)
    case atStart => exact ⟨0, Nat.zero_le _, rfl, rfl, hid (fun j y h => by omega)⟩
    case round =>
      obtain ⟨k, hk, rfl, rfl, HI⟩ := hrel
      by_cases hlt : k < ps.length
      · have e1 : decide ((k : Int) < (ps.length : Int)) = true := decide_eq_true (by omega)
        have wi : IntKind.i64.wrap ((k : Int) + 1) = (k : Int) + 1 := by rw [IntKind.wrap_i64]; omega
        have i0 : (0 : Int) ≤ (k : Int) := by omega
        obtain ⟨y, hy⟩ : ∃ y, ps[k]? = some y := ⟨_, List.getElem?_eq_getElem hlt⟩
        have hym := List.mem_of_getElem? hy
        obtain ⟨ab, ao, ac, hve, hcl⟩ := Rd.cell HRD.out (by omega)
        simp only [Value.slice.injEq] at hve
        obtain ⟨rfl, -, rfl⟩ := hve
        obtain ⟨ya, yc, hyv, -⟩ := (HW.out y hym).rd
        have q0 := KK.out.cell (hcl _ _ (progCells_at hy)) (fun h => h)
        rw [hyv] at q0
        have HY := hid hy
        clear hcl hym hyv hy
        by_cases h20 : y.ops.length ≤ 20
        · have e2 : decide ((20 : Int) < (y.ops.length : Int)) = false := decide_eq_false (by omega)
          have e3 : decide (20 < y.ops.length) = false := decide_eq_false (by omega)
          have HN := hid (show ∀ (j : Nat) (z : ProgV), j < k + 1 → ps[j]? = some z → z.ops.length ≤ 20 from fun j z hj hz => by
            by_cases e : j = k
            · subst e; rw [HY.out] at hz; cases hz; exact h20
            · exact HI.out j z (by omega) hz)
          clear h20
          go_wp2
          go_roundw
          case rel => exact ⟨k + 1, by omega, by go_num, by first | trivial | rfl, HN⟩
          case measure => simp [intOf]; omega
        · have e2 : decide ((20 : Int) < (y.ops.length : Int)) = true := decide_eq_true (by omega)
          have e3 : decide (20 < y.ops.length) = true := decide_eq_true (by omega)
          have HR := hid (show (ps.all fun y => decide (y.ops.length ≤ 20)) = false from by
            rw [List.all_eq_false]
            exact ⟨y, List.mem_of_getElem? HY.out, by simp; omega⟩)
          clear h20
          go_wp2
          go_ret
          exact ⟨by rw [HR.out]; rfl, KK.out⟩
      · obtain rfl : k = ps.length := by omega
        have e1 : decide ((ps.length : Int) < (ps.length : Int)) = false := decide_eq_false (by omega)
        have HR := hid (show (ps.all fun y => decide (y.ops.length ≤ 20)) = true from by
          rw [List.all_eq_true]
          intro y hy
          obtain ⟨j, hj⟩ := List.getElem?_of_mem hy
          exact decide_eq_true (HI.out j y (List.getElem?_eq_some_iff.1 hj).1 hj))
        go_wp2
        go_ret
        exact ⟨by rw [HR.out]; rfl, KK.out⟩
  · have hsh : rShort ⟨kind, bk, .slice pa ps.length pc, ps, .slice ka picks.length kc, picks⟩ most = false := by unfold rShort; simp only; rw [decide_eq_false hs, Bool.false_and]
    rw [hsh]
    clear k0 o0 hsh
    subst hW0
    by_cases s1 : 1 ≤ ps.length
    · have d1 : decide ((ps.length : Int) < 1) = false := decide_eq_false (by omega)
      have d4 : decide (ps.length < 1) = false := decide_eq_false (by omega)
      have d7 : decide (ps.length = 0) = false := decide_eq_false (by omega)
      by_cases s2 : ps.length ≤ 6
      · have d2 : decide ((6 : Int) < (ps.length : Int)) = false := decide_eq_false (by omega)
        have d5 : decide (6 < ps.length) = false := decide_eq_false (by omega)
        have d3 : decide ((most : Int) < (picks.length : Int)) = true := decide_eq_true (by omega)
        have d6 : decide (most < picks.length) = true := decide_eq_true (by omega)
        clear hs s1 s2
        go_enter Tryz.func5, Tryz.ntmps5
        go_wp2
        go_ret
        exact ⟨rfl, KK.out⟩
      · have d2 : decide ((6 : Int) < (ps.length : Int)) = true := decide_eq_true (by omega)
        have d5 : decide (6 < ps.length) = true := decide_eq_true (by omega)
        clear hs s1 s2
        go_enter Tryz.func5, Tryz.ntmps5
        go_wp2
        go_ret
        exact ⟨rfl, KK.out⟩
    · have d1 : decide ((ps.length : Int) < 1) = true := decide_eq_true (by omega)
      have d4 : decide (ps.length < 1) = true := decide_eq_true (by omega)
      have d7 : decide (ps.length = 0) = true := decide_eq_true (by omega)
      clear hs s1
      go_enter Tryz.func5, Tryz.ntmps5
      go_wp2
      go_ret
      exact ⟨rfl, KK.out⟩
end
end Go.Proofs.YtldjlcdccnnogaaGreat
