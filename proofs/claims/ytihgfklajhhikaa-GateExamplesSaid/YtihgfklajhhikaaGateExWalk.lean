/- GateExamples: the walk. -/
import Derived.Test.YtihgfklajhhikaaGateX
import Derived.Test.YtihgfklajhhikaaKit
import Derived.Test.YtihgfklajhhikaaSizesWalk
set_option linter.unusedVariables false
set_option linter.unusedSimpArgs false
namespace Go.Lf
def exsl (p : Nat) : List GSl := (List.replicate 64 ⟨0, 0, 0, 0⟩).set 7 ⟨p, 1, 0, 0⟩
def exen : GOp := .en 0 7 1 (some 0) true
/-- The first wait after k steps, and the words. -/
def exv (k : Nat) : GOp := .wa 1 k 0 (if k = 6 then [] else [0]) 0
def exvw (k : Nat) : List Int := [if 4 ≤ k then 1 else 0, 0, 0, if 1 ≤ k ∧ k ≤ 5 then 2 else 0, 0, 1, 0, 0]
/-- The second. -/
def exu (k : Nat) : GOp := .wa 1 (min k 4) 0 [1] 0
def exuw (k : Nat) : List Int := [1, 0, 0, 0, if 4 ≤ k then 1 else 0, 1, 0, if 1 ≤ k then 2 else 0]
theorem exv_step (k : Nat) (hk : k < 6) (log : List Acc) : ∃ log', GStep 0 ⟨exsl 3, exvw k, log, [exen, exv k, exu 0]⟩ 1 ⟨exsl 3, exvw (k + 1), log', [exen, exv k, exu 0].set 1 (exv (k + 1))⟩ (([2, 15, 19, 20, 19, 3] : List Int)[k]?.getD 0) (k == 5) := by
  have : k = 0 ∨ k = 1 ∨ k = 2 ∨ k = 3 ∨ k = 4 ∨ k = 5 := by omega
  rcases this with rfl | rfl | rfl | rfl | rfl | rfl
  · have h : GWStep 0 1 (exvw 0) 0 0 [0] 0 ((exvw 0).set 3 2) ⟨1, 3, 4, 0, 2, true⟩ 1 0 [0] 0 := .lock (b := 0) (rest := []) rfl
    have g := GStep.wait (S := ⟨exsl 3, exvw 0, log, [exen, exv 0, exu 0]⟩) (i := 1) rfl h
    exact ⟨_, g⟩
  · have h : GWStep 0 1 (exvw 1) 1 0 [0] 0 (exvw 1) ⟨1, 0, 1, 0, 0, false⟩ 2 0 [0] 0 := .look (b := 0) (rest := []) (x := 0) rfl
    have g := GStep.wait (S := ⟨exsl 3, exvw 1, log, [exen, exv 1, exu 0]⟩) (i := 1) rfl h
    exact ⟨_, g⟩
  · have h : GWStep 0 1 (exvw 2) 2 0 [0] 0 (exvw 2) ⟨1, 2, 1, 0, 0, false⟩ 3 0 [0] 0 := .other (b := 0) (rest := []) (x := 0) rfl
    have g := GStep.wait (S := ⟨exsl 3, exvw 2, log, [exen, exv 2, exu 0]⟩) (i := 1) rfl h
    exact ⟨_, g⟩
  · have h : GWStep 0 1 (exvw 3) 3 0 [0] 0 ((exvw 3).set 0 1) ⟨1, 0, 2, 0, 1, false⟩ 4 0 [0] 0 := .flip (b := 0) (rest := []) (x := 0) rfl
    have g := GStep.wait (S := ⟨exsl 3, exvw 3, log, [exen, exv 3, exu 0]⟩) (i := 1) rfl h
    exact ⟨_, g⟩
  · have h : GWStep 0 1 (exvw 4) 4 0 [0] 0 (exvw 4) ⟨1, 1, 1, 0, 0, false⟩ 5 0 [0] 0 := .drain (b := 0) (rest := []) (x := 0) rfl
    have g := GStep.wait (S := ⟨exsl 3, exvw 4, log, [exen, exv 4, exu 0]⟩) (i := 1) rfl h
    exact ⟨_, g⟩
  · have h : GWStep 0 1 (exvw 5) 5 0 [0] 0 ((exvw 5).set 3 0) ⟨1, 3, 2, 2, 0, false⟩ 6 0 [] 0 := .unlock (b := 0) (rest := []) rfl
    have g := GStep.wait (S := ⟨exsl 3, exvw 5, log, [exen, exv 5, exu 0]⟩) (i := 1) rfl h
    exact ⟨_, g⟩
theorem exu_step (k : Nat) (hk : k < 6) (log : List Acc) : ∃ log', GStep 0 ⟨exsl 3, exuw k, log, [exen, exv 6, exu k]⟩ 2 ⟨exsl 3, exuw (k + 1), log', [exen, exv 6, exu k].set 2 (exu (k + 1))⟩ (([2, 15, 19, 20, 19, 19] : List Int)[k]?.getD 0) false := by
  have : k = 0 ∨ k = 1 ∨ k = 2 ∨ k = 3 ∨ k = 4 ∨ k = 5 := by omega
  rcases this with rfl | rfl | rfl | rfl | rfl | rfl
  · have h : GWStep 0 1 (exuw 0) 0 0 [1] 0 ((exuw 0).set 7 2) ⟨1, 7, 4, 0, 2, true⟩ 1 0 [1] 0 := .lock (b := 1) (rest := []) rfl
    have g := GStep.wait (S := ⟨exsl 3, exuw 0, log, [exen, exv 6, exu 0]⟩) (i := 2) rfl h
    exact ⟨_, g⟩
  · have h : GWStep 0 1 (exuw 1) 1 0 [1] 0 (exuw 1) ⟨1, 4, 1, 0, 0, false⟩ 2 0 [1] 0 := .look (b := 1) (rest := []) (x := 0) rfl
    have g := GStep.wait (S := ⟨exsl 3, exuw 1, log, [exen, exv 6, exu 1]⟩) (i := 2) rfl h
    exact ⟨_, g⟩
  · have h : GWStep 0 1 (exuw 2) 2 0 [1] 0 (exuw 2) ⟨1, 6, 1, 0, 0, false⟩ 3 0 [1] 0 := .other (b := 1) (rest := []) (x := 0) rfl
    have g := GStep.wait (S := ⟨exsl 3, exuw 2, log, [exen, exv 6, exu 2]⟩) (i := 2) rfl h
    exact ⟨_, g⟩
  · have h : GWStep 0 1 (exuw 3) 3 0 [1] 0 ((exuw 3).set 4 1) ⟨1, 4, 2, 0, 1, false⟩ 4 0 [1] 0 := .flip (b := 1) (rest := []) (x := 0) rfl
    have g := GStep.wait (S := ⟨exsl 3, exuw 3, log, [exen, exv 6, exu 3]⟩) (i := 2) rfl h
    exact ⟨_, g⟩
  · have h : GWStep 0 1 (exuw 4) 4 0 [1] 0 (exuw 4) ⟨1, 5, 1, 1, 1, false⟩ 4 0 [1] 0 := .drain (b := 1) (rest := []) (x := 1) rfl
    have g := GStep.wait (S := ⟨exsl 3, exuw 4, log, [exen, exv 6, exu 4]⟩) (i := 2) rfl h
    exact ⟨_, g⟩
  · have h : GWStep 0 1 (exuw 5) 4 0 [1] 0 (exuw 5) ⟨1, 5, 1, 1, 1, false⟩ 4 0 [1] 0 := .drain (b := 1) (rest := []) (x := 1) rfl
    have g := GStep.wait (S := ⟨exsl 3, exuw 5, log, [exen, exv 6, exu 5]⟩) (i := 2) rfl h
    exact ⟨_, g⟩
theorem exa_choose (log : List Acc) : ∃ log', GStep 0 ⟨exsl 1, [0, 0, 0, 0, 0, 0, 0, 0], log, [.en 0 7 1 none false]⟩ 0 ⟨exsl 2, [0, 0, 0, 0, 0, 0, 0, 0], log', [GOp.en 0 7 1 none false].set 0 (.en 0 7 1 (some 0) false)⟩ 15 false := by
  have h : GStep 0 ⟨exsl 1, [0, 0, 0, 0, 0, 0, 0, 0], log, [.en 0 7 1 none false]⟩ 0 ⟨(exsl 1).set 7 ⟨2, 1, 0, 0⟩, [0, 0, 0, 0, 0, 0, 0, 0], log ++ [⟨0, 4, 1, 0, 0, false⟩], [GOp.en 0 7 1 none false].set 0 (.en 0 7 1 (some 0) false)⟩ 15 false := .choose (t := 0) (s := 7) (b := 1) (x := 0) (y := ⟨1, 1, 0, 0⟩) rfl rfl rfl
  exact ⟨_, h⟩
theorem exa_count (log : List Acc) : ∃ log', GStep 0 ⟨exsl 2, [0, 0, 0, 0, 0, 0, 0, 0], log, [.en 0 7 1 (some 0) false]⟩ 0 ⟨exsl 3, [0, 0, 0, 0, 0, 1, 0, 0], log', [GOp.en 0 7 1 (some 0) false].set 0 exen⟩ 16 true := by
  have h : GStep 0 ⟨exsl 2, [0, 0, 0, 0, 0, 0, 0, 0], log, [.en 0 7 1 (some 0) false]⟩ 0 ⟨(exsl 2).set 7 ⟨3, 1, 0, 0⟩, [0, 0, 0, 0, 0, 1, 0, 0], log ++ [⟨0, 5, 3, 0, 1, false⟩], [GOp.en 0 7 1 (some 0) false].set 0 exen⟩ 16 true := .count (t := 0) (s := 7) (b := 1) (c := 0) (x := 0) (y := ⟨2, 1, 0, 0⟩) rfl rfl rfl
  exact ⟨_, h⟩
theorem exa_drain (log : List Acc) : ∃ log', GStep 0 ⟨exsl 0, [1, 0, 0, 0, 1, 0, 0, 2], log, [exen, exv 6, .wa 1 4 0 [1] 0]⟩ 2 ⟨exsl 0, [1, 0, 0, 0, 1, 0, 0, 2], log', [exen, exv 6, .wa 1 4 0 [1] 0].set 2 (.wa 1 5 0 [1] 0)⟩ 19 false := by
  have h : GWStep 0 1 [1, 0, 0, 0, 1, 0, 0, 2] 4 0 [1] 0 [1, 0, 0, 0, 1, 0, 0, 2] ⟨1, 5, 1, 0, 0, false⟩ 5 0 [1] 0 := .drain (b := 1) (rest := []) (x := 0) rfl
  have g := GStep.wait (S := ⟨exsl 0, [1, 0, 0, 0, 1, 0, 0, 2], log, [exen, exv 6, .wa 1 4 0 [1] 0]⟩) (i := 2) rfl h
  exact ⟨_, g⟩
theorem exa_unlock (log : List Acc) : ∃ log', GStep 0 ⟨exsl 0, [1, 0, 0, 0, 1, 0, 0, 2], log, [exen, exv 6, .wa 1 5 0 [1] 0]⟩ 2 ⟨exsl 0, [1, 0, 0, 0, 1, 0, 0, 0], log', [exen, exv 6, .wa 1 5 0 [1] 0].set 2 (.wa 1 6 0 [] 0)⟩ 3 true := by
  have h : GWStep 0 1 [1, 0, 0, 0, 1, 0, 0, 2] 5 0 [1] 0 [1, 0, 0, 0, 1, 0, 0, 0] ⟨1, 7, 2, 2, 0, false⟩ 6 0 [] 0 := .unlock (b := 1) (rest := []) rfl
  have g := GStep.wait (S := ⟨exsl 0, [1, 0, 0, 0, 1, 0, 0, 2], log, [exen, exv 6, .wa 1 5 0 [1] 0]⟩) (i := 2) rfl h
  exact ⟨_, g⟩
end Go.Lf
namespace Go.Proofs.Ytihgfklajhhikaa
open Go.RowKit Go.Lf
section
variable {w wr : World} {g r mb : Nat}
theorem genter_nil : Calls Try.prog 54 #[.pointer none, .int .i64 0, .int .i64 0, .int .i64 0] w fun e w' => e = .returned (.tuple #[.pointer none, .int .i64 1]) ∧ w = w' := by
  go_enter Try.func54, Try.ntmps54
  go_wp2_with fail
  refine (gslot_nil _ _).mono ?_
  rintro e w' ⟨rfl, rfl⟩
  go_wp2
  go_ret2
  exact ⟨rfl, rfl⟩
theorem gexit_nil : Calls Try.prog 58 #[.pointer none, .int .i64 0, .int .i64 0] w fun e w' => e = .returned (.tuple #[.int .u8 0, .int .i64 1]) ∧ w = w' := by
  go_enter Try.func58, Try.ntmps58
  go_wp2_with fail
  refine (gslot_nil _ _).mono ?_
  rintro e w' ⟨rfl, rfl⟩
  go_wp2
  go_ret2
  exact ⟨rfl, rfl⟩
/-- The row of what is wanted. -/
def WantAt (w : World) (q : Nat) (l : List Int) : Prop := w.heap[q]? = some (.cells (l.map (Value.int .u8)).toArray 5 (0, 0))
theorem WantAt.cell {q : Nat} {l : List Int} (h : WantAt w q l) {k : Nat} {x : Int} (hx : l[k]? = some x) : w.cell? ⟨q, k, none⟩ = some (.int .u8 x) := by
  rw [cell_of h]; simp [hx]
/-- The blocks of one row. -/
def OneL (q : Nat) : Nat → Prop := fun k => k = q
set_option maxRecDepth 100000 in
set_option maxHeartbeats 6000000 in
theorem walk_gex (w : World) : Calls Try.prog 13 #[] w fun e w' => e = .returned (.bool true) ∧ Keep Nil w w' := by
  go_enter Try.func13, Try.ntmps13
  go_wp2_with (at_make; refine wpList_mk _ rfl _ _ 26 rfl 49 _ 1 8 Try.underlying26 infoU64 _ _ 8 rfl rfl ?p0 ?p1 ?p2 ?_)
  case p0 => omega
  case p1 => omega
  case p2 => omega
  intro w1 hh hk hz
  have hrd : Rd w1 1 (.slice (some ⟨w.heap.size, 0, none⟩) 8 8) 8 (u64s [0, 0, 0, 0, 0, 0, 0, 0]) := zeros_rd hh
  have HK := hid hk
  have HRD := hid hrd
  clear hh hk hz hrd
  go_wp2_with fail
  refine (new_ok _ [0, 0, 0, 0, 0, 0, 0, 0] _ HRD.out (by decide) (by decide)).mono ?_
  rintro e w2 ⟨mb, F, rfl, hm, k2, f2⟩
  have HM := hid hm
  have HO := hid (Go.Lf.Own.fresh HK.out k2 f2)
  clear hm k2 f2 HRD HK
  go_wp2_with fail
  refine (gnew_ok HM.out (by decide) 0 2 (by decide)).mono ?_
  rintro e w3 ⟨g, r, rfl, hg, k3, lg, lr⟩
  have X3 := hid (GX.new HO.out.1 HM.out HO.out.2 hg k3 lg lr)
  clear hg k3 lg lr HM HO
  have HC := hid (show Calls Try.prog 54 #[ptr g, .int .i64 0, .int .i64 7, .int .i64 3] w3 _ from X3.out.enter (t := 0) (s := 7) (v := 3) (by decide) (by decide) (by decide) rfl rfl)
  go_wp2_with fail
  refine HC.out.mono ?_
  rintro e w4 ⟨a0, rfl, hx4, -⟩
  have X4 := hid (show GX w g r mb 1 Nil [0, 0, 0, 0, 0, 0, 0, 0] [.en 0 7 1 none false] (exsl 1) [a0] w4 from hx4)
  clear hx4 HC X3
  have HC := hid (X4.out.step (by decide) (i := 0) (a := a0) rfl (o := .en 0 7 1 none false) (o' := .en 0 7 1 (some 0) false) rfl exa_choose)
  go_wp2_with fail
  refine HC.out.mono ?_
  rintro e w5 ⟨rfl, hx5, -⟩
  have X5 := hid (show GX w g r mb 2 Nil [0, 0, 0, 0, 0, 0, 0, 0] [.en 0 7 1 (some 0) false] (exsl 2) [a0] w5 from hx5)
  clear hx5 HC X4
  have HC := hid (X5.out.step (by decide) (i := 0) (a := a0) rfl (o := .en 0 7 1 (some 0) false) (o' := exen) rfl exa_count)
  go_wp2_with fail
  refine HC.out.mono ?_
  rintro e w6 ⟨rfl, hx6, -⟩
  have X6 := hid (show GX w g r mb 3 Nil [0, 0, 0, 0, 0, 1, 0, 0] [exen] (exsl 3) [a0] w6 from hx6)
  clear hx6 HC X5
  obtain ⟨F6, log6, hm6, hl6⟩ := X6.out.mem (by decide)
  have HC := hid (words_ok hm6 (by decide))
  clear hm6 hl6
  go_wp2_with fail
  refine HC.out.mono ?_
  rintro e w7 ⟨g7, rfl, hg7, hz7, k7⟩
  have RD7 := hid (show Rd w7 1 (.slice (some ⟨g7, 0, none⟩) 8 8) 8 (u64s [0, 0, 0, 0, 0, 1, 0, 0]) from rd_of_heap (size := 1) hg7 (by simp [length_u64s]))
  have X7 := hid (X6.out.quiet k7)
  clear hg7 hz7 k7 X6 HC
  go_wp2_with fail
  refine (eqU_yes _ _ [0, 0, 0, 0, 0, 1, 0, 0] _ (rd_keep RD7.out ((Keep.refl Nil _).alloc _) (fun _ _ h => h)) (rd_new _ _ _ 1 8 _ ⟨rfl, rfl⟩) (by decide)).mono ?_
  rintro e w8 ⟨rfl, k8⟩
  have X8 := hid (X7.out.quiet (((Keep.refl Nil _).alloc _).trans k8 (fun _ _ h => h)))
  clear k8 X7 RD7
  -- the waits
  have HC := hid (show Calls Try.prog 56 #[ptr g, .int .i64 1, .int .u64 1] w8 _ from X8.out.wait (t := 1) (set := 1) (by decide) (by decide) (by decide) (by decide) (by decide))
  go_wp2_with fail
  refine HC.out.mono ?_
  rintro e w9 ⟨a1, rfl, hx9, -⟩
  have X9 := hid (show GX w g r mb 4 Nil [0, 0, 0, 0, 0, 1, 0, 0] [exen, exv 0] (exsl 3) [a0, a1] w9 from hx9)
  clear hx9 HC X8
  have HC := hid (show Calls Try.prog 56 #[ptr g, .int .i64 1, .int .u64 2] w9 _ from X9.out.wait (t := 1) (set := 2) (by decide) (by decide) (by decide) (by decide) (by decide))
  go_wp2_with fail
  refine HC.out.mono ?_
  rintro e w10 ⟨a2, rfl, hx10, -⟩
  have X10 := hid (show GX w g r mb 5 Nil (exvw 0) [exen, exv 0, exu 0] (exsl 3) [a0, a1, a2] w10 from hx10)
  clear hx10 HC X9
  have T0 := hid (show GX w g r mb (5 + 0) (OneL w10.heap.size) (exvw 0) [exen, exv 0, exu 0] (exsl 3) [a0, a1, a2] (w10.alloc (.cells #[.int .u8 2, .int .u8 15, .int .u8 19, .int .u8 20, .int .u8 19, .int .u8 3] 5)) ∧ WantAt (w10.alloc (.cells #[.int .u8 2, .int .u8 15, .int .u8 19, .int .u8 20, .int .u8 19, .int .u8 3] 5)) w10.heap.size [2, 15, 19, 20, 19, 3] from
    ⟨X10.out.loc ((Keep.refl Nil _).alloc _) (fun k hk => .inr (by have : k = w10.heap.size := hk; simp; omega)), heap_alloc_new _ _⟩)
  clear X10
  go_wp2
  generalize w10.heap.size = qb at *
  go_loopw [13] (fun i wr => ∃ k : Nat, k ≤ 6 ∧ i = .int .i64 k ∧ Hid (GX w g r mb (5 + k) (OneL qb) (exvw k) [exen, exv k, exu 0] (exsl 3) [a0, a1, a2] wr ∧ WantAt wr qb [2, 15, 19, 20, 19, 3])) (fun i _ => 6 - (intOf i).toNat)
  case atStart => exact ⟨0, by omega, rfl, T0⟩
  case round =>
    obtain ⟨k, hk, rfl, HR⟩ := hrel
    clear T0
    by_cases hlt : k < 6
    · have hc := HR.out.1.step (by omega) (i := 1) (a := a1) rfl (o := exv k) (o' := exv (k + 1)) rfl (exv_step k hlt)
      obtain ⟨p, hp⟩ : ∃ p, ([2, 15, 19, 20, 19, 3] : List Int)[k]? = some p := ⟨_, List.getElem?_eq_getElem (by simpa using hlt)⟩
      rw [hp] at hc
      have HC := hid hc
      have HP := hid hp
      have HW := hid HR.out.2
      have hbe : ((k : Int) == 5) = (k == 5) := by rw [Bool.eq_iff_iff, beq_iff_eq, beq_iff_eq]; omega
      clear hc hp HR
      go_wp2_with fail
      refine HC.out.mono ?_
      rintro e w12 ⟨rfl, hq, hk12⟩
      have hw : WantAt w12 qb [2, 15, 19, 20, 19, 3] := hk12.loc HW.out rfl
      have cw := hw.cell HP.out
      have HQ := hid (show GX w g r mb (5 + (k + 1)) (OneL qb) (exvw (k + 1)) [exen, exv (k + 1), exu 0] (exsl 3) [a0, a1, a2] w12 ∧ WantAt w12 qb [2, 15, 19, 20, 19, 3] from ⟨hq, hw⟩)
      clear hq HC HP HW hk12 hw
      go_wp2
      go_roundw
      case rel => first | exact ⟨k + 1, by omega, by go_num, HQ⟩ | ((repeat apply Exists.intro); exact ⟨⟨k + 1, by omega, by go_num, HQ⟩, rfl⟩)
      case measure => simp [intOf]; omega
    · obtain rfl : k = 6 := by omega
      have zf : wr.frozen? ⟨qb, 5, none⟩ = false := free_of HR.out.2 5
      have zc := HR.out.2.cell (k := 5) rfl
      have T1 := hid (show GX w g r mb (11 + 0) (OneL qb) (exuw 0) [exen, exv 6, exu 0] (exsl 3) [a0, a1, a2] (wr.setCell ⟨qb, 5, none⟩ (.int .u8 19)) ∧ WantAt (wr.setCell ⟨qb, 5, none⟩ (.int .u8 19)) qb [2, 15, 19, 20, 19, 19] from
        ⟨HR.out.1.loc (Keep.setCell (S := OneL qb) (p := ⟨qb, 5, none⟩) (Keep.refl _ _) (.inl rfl) _) (fun k hk => .inl hk), set_same (i := 5) HR.out.2 (.int .u8 19)⟩)
      clear HR hlt hk
      go_wp2
      go_loopw [16] (fun i wr => ∃ k : Nat, k ≤ 6 ∧ i = .int .i64 k ∧ Hid (GX w g r mb (11 + k) (OneL qb) (exuw k) [exen, exv 6, exu k] (exsl 3) [a0, a1, a2] wr ∧ WantAt wr qb [2, 15, 19, 20, 19, 19])) (fun i _ => 6 - (intOf i).toNat)
      case atStart => exact ⟨0, by omega, rfl, T1⟩
      case round =>
        obtain ⟨k, hk, rfl, HR⟩ := hrel
        clear T1 zf zc
        by_cases hlt : k < 6
        · have hc := HR.out.1.step (by omega) (i := 2) (a := a2) rfl (o := exu k) (o' := exu (k + 1)) rfl (exu_step k hlt)
          obtain ⟨p, hp⟩ : ∃ p, ([2, 15, 19, 20, 19, 19] : List Int)[k]? = some p := ⟨_, List.getElem?_eq_getElem (by simpa using hlt)⟩
          rw [hp] at hc
          have HC := hid hc
          have HP := hid hp
          have HW := hid HR.out.2
          clear hc hp HR
          go_wp2_with fail
          refine HC.out.mono ?_
          rintro e w12 ⟨rfl, hq, hk12⟩
          have hw : WantAt w12 qb [2, 15, 19, 20, 19, 19] := hk12.loc HW.out rfl
          have cw := hw.cell HP.out
          have HQ := hid (show GX w g r mb (11 + (k + 1)) (OneL qb) (exuw (k + 1)) [exen, exv 6, exu (k + 1)] (exsl 3) [a0, a1, a2] w12 ∧ WantAt w12 qb [2, 15, 19, 20, 19, 19] from ⟨hq, hw⟩)
          clear hq HC HP HW hk12 hw
          go_wp2
          go_roundw
          case rel => first | exact ⟨k + 1, by omega, by go_num, HQ⟩ | ((repeat apply Exists.intro); exact ⟨⟨k + 1, by omega, by go_num, HQ⟩, rfl⟩)
          case measure => simp [intOf]; omega
        · obtain rfl : k = 6 := by omega
          have X1 := hid (show GX w g r mb 17 (OneL qb) [1, 0, 0, 0, 1, 1, 0, 2] [exen, exv 6, .wa 1 4 0 [1] 0] (exsl 3) [a0, a1, a2] wr from HR.out.1)
          clear HR hlt hk
          have HC := hid (show Calls Try.prog 58 #[ptr g, .int .i64 0, .int .i64 7] wr _ from X1.out.exit (by decide) (t := 0) (s := 7) (x := ⟨3, 1, 0, 0⟩) (y := 1) (by decide) (by decide) rfl rfl rfl)
          go_wp2_with fail
          refine HC.out.mono ?_
          rintro e w14 ⟨rfl, hx2, -⟩
          have X2 := hid (show GX w g r mb 18 (OneL qb) [1, 0, 0, 0, 1, 0, 0, 2] [exen, exv 6, .wa 1 4 0 [1] 0] (exsl 0) [a0, a1, a2] w14 from hx2)
          clear hx2 X1 HC
          have HC := hid (X2.out.step (by decide) (i := 2) (a := a2) rfl (o := .wa 1 4 0 [1] 0) (o' := .wa 1 5 0 [1] 0) rfl exa_drain)
          go_wp2_with fail
          refine HC.out.mono ?_
          rintro e w15 ⟨rfl, hx3, -⟩
          have X3 := hid (show GX w g r mb 19 (OneL qb) [1, 0, 0, 0, 1, 0, 0, 2] [exen, exv 6, .wa 1 5 0 [1] 0] (exsl 0) [a0, a1, a2] w15 from hx3)
          clear hx3 X2 HC
          have HC := hid (X3.out.step (by decide) (i := 2) (a := a2) rfl (o := .wa 1 5 0 [1] 0) (o' := .wa 1 6 0 [] 0) rfl exa_unlock)
          go_wp2_with fail
          refine HC.out.mono ?_
          rintro e w16 ⟨rfl, hx4, -⟩
          have X4 := hid (show GX w g r mb 20 (OneL qb) [1, 0, 0, 0, 1, 0, 0, 0] [exen, exv 6, .wa 1 6 0 [] 0] (exsl 0) [a0, a1, a2] w16 from hx4)
          clear hx4 X3 HC
          obtain ⟨F6, log6, hm6, hl6⟩ := X4.out.mem (by decide)
          have HC := hid (words_ok hm6 (by decide))
          clear hm6 hl6
          go_wp2_with fail
          refine HC.out.mono ?_
          rintro e w17 ⟨g7, rfl, hg7, hz7, k7⟩
          have RD7 := hid (show Rd w17 1 (.slice (some ⟨g7, 0, none⟩) 8 8) 8 (u64s [1, 0, 0, 0, 1, 0, 0, 0]) from rd_of_heap (size := 1) hg7 (by simp [length_u64s]))
          have X5 := hid (X4.out.quiet k7)
          clear hg7 hz7 k7 X4 HC
          go_wp2_with fail
          refine (eqU_yes _ _ [1, 0, 0, 0, 1, 0, 0, 0] _ (rd_keep RD7.out ((Keep.refl Nil _).alloc _) (fun _ _ h => h)) (rd_new _ _ _ 1 8 _ ⟨rfl, rfl⟩) (by decide)).mono ?_
          rintro e w18 ⟨rfl, k8⟩
          have X6 := hid (X5.out.quiet (((Keep.refl Nil _).alloc _).trans k8 (fun _ _ h => h)))
          clear k8 X5 RD7
          have HC := hid (X6.out.state 0 7 (x := ⟨0, 1, 0, 0⟩) (by decide) rfl (by decide))
          go_wp2_with fail
          refine HC.out.mono ?_
          rintro e w19 ⟨rfl, rfl⟩
          clear HC
          go_wp2_with fail
          refine (gwait_err g 1 0 (.inr (.inr rfl))).mono ?_
          rintro e w19 ⟨rfl, rfl⟩
          have HC := hid (X6.out.range 0 64 0 (by decide))
          rw [show gsErr 0 64 = 3 from rfl] at HC
          go_wp2_with fail
          refine HC.out.mono ?_
          rintro e w19 ⟨rfl, rfl⟩
          clear HC
          go_wp2_with fail
          refine genter_nil.mono ?_
          rintro e w19 ⟨rfl, rfl⟩
          go_wp2_with fail
          refine gexit_nil.mono ?_
          rintro e w19 ⟨rfl, rfl⟩
          go_wp2_with fail
          refine (gwait_nil 0 1).mono ?_
          rintro e w19 ⟨rfl, rfl⟩
          go_wp2_with fail
          refine gestep_nil.mono ?_
          rintro e w19 ⟨rfl, rfl⟩
          go_wp2_with fail
          refine gwstep_nil.mono ?_
          rintro e w19 ⟨rfl, rfl⟩
          go_wp2_with fail
          refine gopen_nil.mono ?_
          rintro e w19 ⟨rfl, rfl⟩
          go_wp2
          go_ret
          exact ⟨rfl, X6.out.own⟩
end
end Go.Proofs.Ytihgfklajhhikaa
