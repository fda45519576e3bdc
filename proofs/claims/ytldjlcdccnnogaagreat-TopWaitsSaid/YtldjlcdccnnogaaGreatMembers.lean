/- domain.Members and Set: contracts. -/
import Derived.Test.YtldjlcdccnnogaaGreatProg
import Derived.Test.YtldjlcdccnnogaaGreatDomPlain
import Derived.Test.YtldjlcdccnnogaaGreatRangeRun
import Derived.IntWalk
namespace Go.Proofs.YtldjlcdccnnogaaGreat
open Go.RowKit Go.Lf Go.Shelf

attribute [local go_sem] Oper.semAt_some

set_option maxRecDepth 100000 in
set_option maxHeartbeats 1000000 in
theorem mem1_runs (F : Fence) (n : Nat) (hF : F.fn 80) (hro : F.round = none) (hn : 1 ≤ n) (Bc s : Nat) (hs : s < 18446744073709551616) :
    SeqRuns F n Tryz.prog 80 #[.pointer (some ⟨Bc, 0, none⟩)] (fun x : Nat => #[Value.int .i64 x]) Bc 41 (.int .u64 s) (mems s 64) := by
  intro l J W hbox hset hdr hY h0
  refine callsIn_of_wp Tryz.func80 rfl hF ?_ hro
  simp only [Tryz.ntmps80, List.size_toArray, List.length_cons, List.length_nil, Nat.reduceAdd, Nat.reduceSub, Array.replicate_succ, Array.replicate_zero, List.push_toArray, List.append_toArray, List.nil_append, List.cons_append]
  have HB := hid hbox
  have HS := hid hset
  have HD := hid hdr
  have HY := hid hY
  have H0 := hid h0
  clear hbox hset hdr hY h0
  gi_wp2
  gi_loopw [3] (fun v wr => ∃ k : Nat, k ≤ 64 ∧ v = .int .i64 k ∧ J (.int .u64 ((s / 2 ^ k : Nat) : Int)) (mems s k) wr) (fun v _ => 64 - (intOf v).toNat)
  case atStart => exact ⟨0, by omega, rfl, by simpa [mems_zero] using H0.out⟩
  case round =>
    obtain ⟨k, hk, rfl, hJ⟩ := hrel
    have hb := HB.out _ _ _ hJ
    have hc : wr.cell? ⟨Bc, 0, none⟩ = some (.int .u64 ((s / 2 ^ k : Nat) : Int)) := by rw [cell_of hb]; rfl
    have hf : wr.frozen? ⟨Bc, 0, none⟩ = false := free_of hb 0
    have hml := mems_length s k
    have hbit := shift_bit s k
    have hnx := shift_succ s k
    have hend := mems_end (s := s) (v := k) (N := 64)
    have hms := mems_succ s k
    have hlt := shift_lt (s := s) (v := k) hs
    have hxs : s / 2 ^ k ≤ s := Nat.div_le_self _ _
    have HJ := hid hJ
    have hbt : s.testBit k = true ↔ s / 2 ^ k % 2 = 1 := by rw [hbit]; simp
    rw [hbit] at hms
    have HBI := hid hbt
    clear hbt
    rw [← hnx] at *
    have HM := hid hms
    have HE := hid hend
    clear hJ hb hml hbit hnx hend hms
    have hX : s / 2 ^ k = s / 2 ^ k := rfl
    generalize hx' : s / 2 ^ k = x at *
    have HX := hid hx'
    clear hx' hX
    by_cases hx : x = 0
    · subst hx
      have hj : J (.int .u64 0) (mems s 64) wr := by rw [← HE.out rfl hk]; exact HJ.out
      have HJ' := hid hj
      simp only [Int.natCast_zero] at hc
      clear HE HM hlt hj HJ hxs
      gi_wp2
      go_end0
      exact ⟨⟨_, rfl⟩, _, HJ'.out⟩
    · have d1 : ((x : Int) != 0) = true := by rw [bne_iff_ne]; omega
      have hk64 := hlt hx
      have hwr : IntKind.i64.wrap ((k : Int) + 1) = (k : Int) + 1 := IntWalk.i64_in _ (by omega)
      have HWR := hid hwr
      have hnum : Value.int .i64 ((k : Int) + 1) = .int .i64 ((k + 1 : Nat) : Int) := by go_num
      have HNUM := hid hnum
      have HWX := hid (show IntKind.u64.wrap ((x : Int) / 2) = ((x / 2 : Nat) : Int) from by rw [IntKind.wrap_u64]; omega)
      clear hnum
      have hlen : (mems s k).length < (mems s 64).length ∨ s.testBit k = false := by
        cases hb : s.testBit k with
        | false => exact .inr rfl
        | true => exact .inl (mems_short hk64 hb)
      clear hx hlt HE hwr
      rcases Nat.mod_two_eq_zero_or_one x with h2 | h2
      · have d2 : ((x : Int) % 2 == 1) = false := beq_eq_false_iff_ne.2 (by omega)
        have hms : mems s (k + 1) = mems s k := by rw [HM.out]; simp [h2]
        have HN := hid hms
        clear HM h2 hms
        gi_wp2
        refine ⟨fun _ h => (by cases h), ?_⟩
        gi_wp2
        gi_region
        all_goals gi_wp2
        all_goals
          go_roundw
          case rel => exact ⟨k + 1, by omega, by rw [HWR.out]; exact HNUM.out, by
            rw [← shift_succ, HX.out, HN.out]; rw [HWX.out]; exact HD.out _ _ _ (HS.out _ _ _ _ HJ.out)⟩
          case measure => simp [intOf, HWR.out]; omega
      · have d2 : ((x : Int) % 2 == 1) = true := beq_iff_eq.2 (by omega)
        have hms : mems s (k + 1) = mems s k ++ [k] := by rw [HM.out]; simp [h2]
        have HBT := hid (HBI.out.2 h2)
        have HN := hid hms
        clear HM h2 hms
        obtain ⟨fn, tmps, assign, body, hy, hR⟩ := HY.out _ _ k wr HJ.out (mem_mems.2 ⟨hk64, HBT.out⟩) (hlen.resolve_right (by rw [HBT.out]; decide))
        gi_wp2
        refine hR.mono ?_
        rintro e W3 ⟨rfl, hJ3⟩
        have hb3 := HB.out _ _ _ hJ3
        have hc3 : W3.cell? ⟨Bc, 0, none⟩ = some (.int .u64 (x : Int)) := by rw [cell_of hb3]; rfl
        have hf3 : W3.frozen? ⟨Bc, 0, none⟩ = false := free_of hb3 0
        have HJ3 := hid hJ3
        clear hJ3 hb3 hc hf hR hy
        gi_wp2
        gi_region
        all_goals gi_wp2
        all_goals
          go_roundw
          case rel => exact ⟨k + 1, by omega, by rw [HWR.out]; exact HNUM.out, by
            rw [← shift_succ, HX.out, HN.out]; rw [HWX.out]; exact HD.out _ _ _ (HS.out _ _ _ _ HJ3.out)⟩
          case measure => simp [intOf, HWR.out]; omega

/-- A list of numbers is returned; nothing that was there has turned. -/
def NumsTo (w : World) (l : List Nat) (e : Ending) (w' : World) : Prop := ∃ v, e = .returned v ∧ Rd w' 1 v l.length (nums l) ∧ Keep Nil w w'

set_option maxHeartbeats 1000000 in
theorem members_in (F : Fence) (n : Nat) (hF : F.fn 68) (hro : F.round = none) (x : Int) (w : World) :
    CallsIn F n Tryz.prog 68 #[.int .u64 x] w fun e w' => e = .returned (.func (.func 80) #[] #[.pointer (some ⟨w.heap.size, 0, none⟩)]) ∧ w' = w.alloc (.cells #[.int .u64 x] 41) := by
  refine callsIn_of_wp Tryz.func68 rfl hF ?_ hro
  simp only [Tryz.ntmps68, List.size_toArray, List.length_cons, List.length_nil, Nat.reduceAdd, Nat.reduceSub, Array.replicate_succ, Array.replicate_zero, List.push_toArray, List.append_toArray, List.nil_append, List.cons_append]
  gi_wp2
  go_ret
  exact ⟨rfl, rfl⟩

theorem infoInt : (Tryz.prog.info? 3).map (fun i => (i.zero, i.size, i.bytes)) = some (some (.int .i64 0), 1, 8) := by kernel_rfl

/-- Between two rounds: the box of the set, the box of the list so far. -/
def MemI (w : World) (c : Value) (pre : List Nat) (W : World) : Prop :=
  (∃ v, Boxed W w.heap.size 23 v ∧ W.ownsRow w.heap.size 3 1 v pre.length (nums pre)) ∧ Boxed W (w.heap.size + 1) 41 c ∧ Below w.heap.size w W

theorem MemI.kept {w W W' : World} {c : Value} {pre : List Nat} {row : Option Nat} (h : MemI w c pre W) (hg : W.grownBy W' row) (hr : ∀ r, row = some r → w.heap.size ≤ r ∧ ∃ o : Obj, W.heap[r]? = some o ∧ o.isCells = false) : MemI w c pre W' := by
  obtain ⟨⟨v, hb, hrow⟩, hc, hB⟩ := h
  have hne : ∀ {B : Nat} {t : TypeId} {u : Value}, Boxed W B t u → some B ≠ row := fun hx e => by
    obtain ⟨-, o, ho, hcl⟩ := hr _ e.symm
    rw [show W.heap[_]? = _ from hx] at ho; cases ho; cases hcl
  refine ⟨⟨v, hb.kept hg (hne hb), hrow.kept hg ?_⟩, hc.kept hg (hne hc), hB.grown hg hB.size (fun k e => (hr k e).1)⟩
  rcases hrow.2 with ⟨rfl, _⟩ | ⟨g, cap, cur, rfl, _, hgb, _⟩
  · exact .inl rfl
  · refine .inr fun e' => ?_
    obtain ⟨-, o, ho, hcl⟩ := hr g (by simpa [Value.ownBlock] using e'.symm)
    rw [hgb] at ho; cases ho; cases hcl

theorem Keep.of_below {w w' : World} (h : Below w.heap.size w w') : Keep Nil w w' := ⟨h.os, h.tape, h.output, h.size, fun k hk _ => h.block k hk⟩

set_option maxRecDepth 100000 in
set_option maxHeartbeats 2000000 in
theorem members_any (s : Nat) (hs : s < 18446744073709551616) (w : World) : Calls Tryz.prog 41 #[.int .u64 s] w (NumsTo w (mems s 64)) := by
  refine (callsIn_wide (n := 5)).1 ?_
  have hro : (Fence.wide).round = none := rfl
  obtain ⟨i0, hi, hz0, hz1, hz2⟩ := info_parts infoInt
  refine callsIn_of_wp_marks Tryz.func41 rfl trivial ?_ hro
  simp only [Tryz.ntmps41, List.size_toArray, List.length_cons, List.length_nil, Nat.reduceAdd, Nat.reduceSub, Array.replicate_succ, Array.replicate_zero, List.push_toArray, List.append_toArray, List.nil_append, List.cons_append]
  gi_wp2_with (refine ⟨trivial, ?_⟩; gi_at_call 68; refine (members_in _ _ trivial rfl _ _).mono ?_; rintro e w' ⟨rfl, rfl⟩)
  have bO := Boxed.new w 23 (.slice none 0 0)
  have bN := Boxed.new (w.alloc (.cells #[.slice none 0 0] 23)) 41 (.int .u64 s)
  rw [World.size_alloc] at bN
  have hB0 : Below w.heap.size w ((w.alloc (.cells #[.slice none 0 0] 23)).alloc (.cells #[.int .u64 s] 41)) := ((Below.refl _ w).alloc (Nat.le_refl _) _).alloc (by simp) _
  have hI0 : MemI w (.int .u64 s) [] ((w.alloc (.cells #[.slice none 0 0] 23)).alloc (.cells #[.int .u64 s] 41)) := ⟨⟨_, bO.alloc _, World.ownsRow_nil _ _ _ _⟩, bN, hB0⟩
  have HI0 := hid hI0
  clear hI0 hB0 bN bO
  refine wpIn_rangeFunc_run hro (by omega) (gf := 80) (lb := #[.pointer (some ⟨w.heap.size + 1, 0, none⟩)]) rfl trivial (enters_of Tryz.func80 (by kernel_rfl) rfl)
    (mem1_runs Fence.wide _ trivial hro (by omega) (w.heap.size + 1) s hs) (fun _ => rfl) (MemI w) (fun c pre W h => h.2.1)
    (fun c c' pre W h => ?set) (fun c pre W h => ⟨h.1, h.2.1, h.2.2.drew⟩) (fun c pre W o h => h.kept (World.grownBy_alloc W o none) (fun r e => by cases e))
    (fun c pre W r o o' h hr ho hcl => h.kept (grownBy_putObj' W r o') (fun j e => by cases e; exact ⟨by simp at hr; omega, o, ho, hcl⟩))
    HI0.out (fun x => { tmps := #[.int .u64 s, undef, .slice none 0 0, .pointer (some ⟨w.heap.size, 0, none⟩), .int .i64 x, .int .u64 s, .func (.func 80) #[] #[.pointer (some ⟨w.heap.size + 1, 0, none⟩)], .int .i64 x, undef, undef, undef, undef, undef], defers := [] }) ?assign ?body ?done
  case set =>
    obtain ⟨⟨v, hb, hrow⟩, hc, hB⟩ := h
    exact ⟨⟨v, hb.other (by omega) _, hrow.kept (grownBy_setCell' W _ _) (.inr (hc.not_row (by decide) hrow).symm)⟩, hc.set c', hB.setCell (p := ⟨w.heap.size + 1, 0, none⟩) (by show _ ≤ w.heap.size + 1; omega) _⟩
  case assign =>
    intro l x W K hK
    gi_wp2
    exact hK
  case body =>
    rintro l c pre x W ⟨⟨v, hb, hrow⟩, hc, hB⟩ hx hlt
    have hml := mems_length s 64
    have hcc := hb.cell
    have HC := hid hc
    clear hc
    gi_wp2_with (gi_at_builtin; refine wpListIn_append_own _ rfl _ _ 23 rfl w.heap.size 3 i0 (.int .i64 0) 1 8 Tryz.underlying23 hi hz0 hz1 hz2 rfl (by decide) _ _ _ rfl (hrow.alloc _) ⟨W.heap.size, 0, none⟩ 1 1 [.int .i64 x] rfl rfl (cell_one_new _ _ _) (by simp [Value.oneCell']) (by unfold maxLen; omega) (by omega) (by have := hB.size; simp; omega) ?_; intro v' w1 hown' hgrow _; obtain ⟨g', cap', rfl⟩ := ownsRow_succ hown'; obtain ⟨hv1, hv2, hr2, hk2, hb2⟩ := hb.appended (by decide) hrow hB.size (Nat.le_refl _) hown' hgrow; have hc1 := hv1.cell; have hf1 := hv1.frozen)
    refine ⟨hk2, ⟨_, hv2, by rw [nums_snoc]; simpa using hr2⟩, ((HC.out.alloc _).kept hgrow (HC.out.not_row (by decide) hrow)).other (by omega) _, hB.trans hb2⟩
  case done =>
    rintro D c W hD ⟨⟨v, hv, hrow⟩, hc, hB⟩ hK
    have hcc := hv.cell
    gi_wp2
    refine ⟨by simp, .inl ⟨_, _, rfl, run_takeDeferred hK, ?_⟩⟩
    refine ⟨_, results_tmp rfl _ _ _, v, rfl, Rd.putObj _ (row_rd hrow) hK rfl, Keep.of_below (hB.trans (belowK_b (w := w) (Nat.le_refl _) W D _ _ (by simp at hD; omega) hK rfl rfl))⟩
end Go.Proofs.YtldjlcdccnnogaaGreat
