/- domain.Buckets: contract. -/
import Derived.Test.YtldjlcdccnnogaaGreatMembers
import Derived.Test.YtldjlcdccnnogaaGreatBkt
import Derived.Test.YtldjlcdccnnogaaGreatSorts
import Derived.Sort.OwnSortedInts
import Derived.Lib.RowBridge
set_option linter.unusedVariables false
set_option linter.unusedSimpArgs false
namespace Go.Proofs.YtldjlcdccnnogaaGreat
open Go.RowKit Go.Lf Go.Shelf Go.Sort
attribute [local go_sem] Oper.semAt_some

theorem grow_none (w : World) : Go.Sort.grow w #[] = w := by cases w; simp [Go.Sort.grow]
/-- slices.Sort on a row that the call owns. -/
theorem sort_row {w : World} {base : Nat} {v : Value} {zs : List Int} (ho : w.ownsRow base 3 1 v zs.length (i64s zs)) (hl : zs.length < 1000000) :
    Calls Tryz.prog 82 #[v] w fun e w' => e = .returned (.tuple #[]) ∧ w'.ownsRow base 3 1 v zs.length (i64s (zs.mergeSort fun x y => decide (x ≤ y))) ∧ w.grownBy w' v.ownBlock := by
  rcases ho.2 with ⟨rfl, h0⟩ | ⟨g, cap, cur, rfl, hbg, hg, hnc, hcm, hcs, htake⟩
  · have hz : zs = [] := List.eq_nil_of_length_eq_zero h0
    subst hz
    refine (Tryz.slices_Sort_int_none none 0 w).mono ?_
    rintro e w' ⟨rfl, rfl⟩
    exact ⟨rfl, by simpa [i64s] using World.ownsRow_nil _ _ _ _, World.grownBy.refl _ _⟩
  · rw [Nat.mul_one] at hcs htake
    have hH : Holds (Value.int .i64) w g 0 zs.toArray := holds_of_blockI hg htake
    have hperm := List.mergeSort_perm zs (fun x y => decide (x ≤ y))
    have hlen := hperm.length_eq
    refine (Tryz.slices_Sort_int g 0 cap zs w hH (lt_of_block hg) (by omega)).mono ?_
    rintro e w' ⟨rfl, n, os, rfl⟩
    exact ⟨rfl, ownsRow_sortedI hlen hbg hg hnc hcm (by omega), grownBy_sortedI _⟩
/-- slices.Compact on such a row. -/
def CompTo (w : World) (v : Value) (zs : List Int) (e : Ending) (w' : World) : Prop :=
  ∃ r, e = .returned r ∧ Rd w' 1 r (Go.Lib.compact zs).length (i64s (Go.Lib.compact zs)) ∧ w.grownBy w' v.ownBlock ∧ r.ownBlock = v.ownBlock
theorem comp_row {w : World} {base : Nat} {v : Value} {zs : List Int} (ho : w.ownsRow base 3 1 v zs.length (i64s zs)) (hl : zs.length < 1000000) :
    Calls Tryz.prog 83 #[v] w (CompTo w v zs) := by
  rcases ho.2 with ⟨rfl, h0⟩ | ⟨g, cap, cur, rfl, hbg, hg, hnc, hcm, hcs, htake⟩
  · have hz : zs = [] := List.eq_nil_of_length_eq_zero h0
    subst hz
    refine (Tryz.slices_Compact_int_empty none 0 w).mono ?_
    rintro e w' ⟨rfl, rfl⟩
    exact ⟨_, rfl, ⟨none, 0, rfl, rfl, .inl ⟨rfl, rfl, rfl⟩⟩, World.grownBy.refl _ _, rfl⟩
  · rw [Nat.mul_one] at hcs htake
    have hH : Holds (Value.int .i64) w g 0 zs.toArray := holds_of_blockI hg htake
    have hcl := Go.Lib.compact_length_le zs
    refine (Tryz.slices_Compact_int g 0 cap zs w hH (by omega) hnc).mono ?_
    rintro e w' ⟨rfl, q, hw'⟩
    have hys : (Go.Lib.compact zs ++ List.replicate (zs.length - (Go.Lib.compact zs).length) 0).length = zs.length := by simp; omega
    rw [← grow_none (putRow _ _ _ _ _)] at hw'
    subst hw'
    have hb := heap_sortedI (n := q) (os := #[]) (Go.Lib.compact zs ++ List.replicate (zs.length - (Go.Lib.compact zs).length) 0).toArray hg
    have ht := take_putCellsI cur (Go.Lib.compact zs ++ List.replicate (zs.length - (Go.Lib.compact zs).length) 0) (by omega)
    refine ⟨_, rfl, ⟨_, cap, rfl, by simp [i64s], .inr (.inl ⟨g, 0, rfl, fun j u hu => ?_⟩)⟩, grownBy_sortedI _, rfl⟩
    have hj : j < (Go.Lib.compact zs).length := by have := (List.getElem?_eq_some_iff.1 hu).1; simpa [i64s] using this
    rw [cell_of hb, Nat.zero_add, ← Array.getElem?_toList]
    have h1 : ((Go.Sort.putCells (Value.int .i64) 0 (Go.Lib.compact zs ++ List.replicate (zs.length - (Go.Lib.compact zs).length) 0).toArray cur).toList.take (Go.Lib.compact zs ++ List.replicate (zs.length - (Go.Lib.compact zs).length) 0).length)[j]? = ((Go.Lib.compact zs ++ List.replicate (zs.length - (Go.Lib.compact zs).length) 0).map (Value.int .i64))[j]? := by rw [ht]
    rw [List.getElem?_take_of_lt (by omega)] at h1
    rw [h1, List.map_append, List.getElem?_append_left (by simpa using hj)]
    exact hu
/-! Buckets. -/
theorem step_appIn {F : Fence} {nF : Nat} {P : Program} (w : World) {ops : Array Oper} {o : Oper} {a : Act} {K : Act → World → Prop} {Q : Exit → Act → World → Prop} {E : Prop} (hgd : o.guard = none) (s x : Operand) (t : TypeId)
    (ho : o.op = .call { callee := .builtin .append, args := #[s, x], argTypes := #[t, t] })
    (base : Nat) (e : TypeId) (i : TypeInfo) (z : Value) (size bytes : Nat) (ht : P.underlying t = some (.slice e)) (hi : P.info? e = some i) (hz : i.zero = some z)
    (hsize : i.size = size) (hby : i.bytes = bytes) (hzs : z.cells.size = size) (hsz : 0 < size)
    (v : Value) (n : Nat) (xs : List Value) (hs : a.eval s = v) (hown : w.ownsRow base e size v n xs)
    (ad : Addr) (m c : Nat) (news : List Value) (hx : a.eval x = .slice (some ad) m c) (hl : news.length = m * size) (hnews : ∀ j u, news[j]? = some u → w.cell? (ad.add j) = some u) (h1 : ∀ u ∈ news, u.oneCell' = true)
    (h63 : n + m ≤ maxLen) (hbytes : (n + m) * bytes ≤ 140737488355328) (hbase : base ≤ w.heap.size)
    (h : ∀ v' w', w'.ownsRow base e size v' (n + m) (xs ++ news) → w.grownBy w' v.ownBlock → (v' = .slice none 0 0 ↔ v = .slice none 0 0 ∧ m = 0) → K (a.put o.dst v') w') :
    if Region.wanted o (yielded ops a.tmps) = true then Oper.wpIn F nF P o a w K Q else E := by
  have hw : Region.wanted o (yielded ops a.tmps) = true := by simp [Region.wanted, hgd]
  rw [if_pos hw]
  obtain ⟨v', w', hr, h2, h3, h4⟩ := run_append_own (P := P) w base t o.type e i z size bytes ht hi hz hsize hby hzs hsz v n xs hown ad m c news hl hnews h1 h63 hbytes hbase
  unfold Oper.wpIn
  refine ⟨by simp [Oper.about, ho, resolve, Target.leads, Sem.run_pure], ?_⟩
  rw [Oper.semAt_plain F _ _ (by rw [ho]; intro c hc'; cases hc')]
  simp [execOp, ho, resolve, invoke, builtin, hs, hx, hr, Result.andThen]
  exact h v' w' h2 h3 h4

/-- Between two rounds: the boxes of the list so far, of the set and of the number. -/
def BktI (w : World) (n : Nat) (c : Value) (pre : List Nat) (W : World) : Prop :=
  (∃ v, Boxed W (w.heap.size + 1) 23 v ∧ W.ownsRow (w.heap.size + 1) 3 1 v pre.length (nums (pre.map (· % n)))) ∧ Boxed W (w.heap.size + 2) 41 c ∧ Boxed W w.heap.size 3 (.int .i64 n) ∧ Below w.heap.size w W
theorem BktI.kept {w W W' : World} {n : Nat} {c : Value} {pre : List Nat} {row : Option Nat} (h : BktI w n c pre W) (hg : W.grownBy W' row) (hr : ∀ r, row = some r → w.heap.size ≤ r ∧ ∃ o : Obj, W.heap[r]? = some o ∧ o.isCells = false) : BktI w n c pre W' := by
  obtain ⟨⟨v, hb, hrow⟩, hc, hn, hB⟩ := h
  have hne : ∀ {B : Nat} {t : TypeId} {u : Value}, Boxed W B t u → some B ≠ row := fun hx e => by
    obtain ⟨-, o, ho, hcl⟩ := hr _ e.symm
    rw [show W.heap[_]? = _ from hx] at ho; cases ho; cases hcl
  refine ⟨⟨v, hb.kept hg (hne hb), hrow.kept hg ?_⟩, hc.kept hg (hne hc), hn.kept hg (hne hn), hB.grown hg hB.size (fun k e => (hr k e).1)⟩
  rcases hrow.2 with ⟨rfl, _⟩ | ⟨g, cap, cur, rfl, _, hgb, _⟩
  · exact .inl rfl
  · refine .inr fun e => ?_
    obtain ⟨-, o, ho, hcl⟩ := hr _ e.symm
    rw [hgb] at ho; cases ho; cases hcl
theorem nums_map_mod (pre : List Nat) (n x : Nat) : nums ((pre ++ [x]).map (· % n)) = nums (pre.map (· % n)) ++ [.int .i64 ((x : Int).tmod (n : Int))] := by
  simp [nums, i64s, ints, Int.tmod_eq_emod_of_nonneg]
set_option maxHeartbeats 1000000 in
theorem buckets_bad (s : Int) (n : Int) (h : n < 1 ∨ 16 < n) (w : World) : Calls Tryz.prog 75 #[.int .u64 s, .int .i64 n] w fun e w' => e = .returned (.tuple #[.slice none 0 0, .int .i64 2]) ∧ Keep Nil w w' := by
  have HS := hid (fun (w : World) => @some_no w n h)
  clear h
  go_enter Tryz.func75, Tryz.ntmps75
  go_wp2_with fail
  refine (HS.out _).mono ?_
  rintro e w' ⟨rfl, rfl⟩
  go_wp2
  go_ret2
  exact ⟨rfl, (Keep.refl Nil w).alloc _⟩
set_option maxRecDepth 100000 in
set_option maxHeartbeats 8000000 in
theorem buckets_ok (s n : Nat) (hs : s < 18446744073709551616) (h1 : 1 ≤ n) (h2 : n ≤ 16) (w : World) : Calls Tryz.prog 75 #[.int .u64 s, .int .i64 n] w (BktsTo w (bkts s n)) := by
  refine (callsIn_wide (n := 5)).1 ?_
  have hro : (Fence.wide).round = none := rfl
  obtain ⟨i0, hi, hz0, hz1, hz2⟩ := info_parts infoInt
  have HSM := hid (fun (w : World) => @some_ok w n h1 h2)
  refine callsIn_of_wp_marks Tryz.func75 rfl trivial ?_ hro
  simp only [Tryz.ntmps75, List.size_toArray, List.length_cons, List.length_nil, Nat.reduceAdd, Nat.reduceSub, Array.replicate_succ, Array.replicate_zero, List.push_toArray, List.append_toArray, List.nil_append, List.cons_append]
  gi_wp2_with (refine ⟨trivial, ?_⟩; first
    | (gi_at_call 81; refine ((callsIn_wide (n := _)).2 (HSM.out _)).mono ?_; rintro e w' ⟨rfl, rfl⟩)
    | (gi_at_call 68; refine (members_in _ _ trivial rfl _ _).mono ?_; rintro e w' ⟨rfl, rfl⟩))
  have bX := Boxed.new w 3 (.int .i64 n)
  have bO := Boxed.new (w.alloc (.cells #[.int .i64 n] 3)) 23 (.slice none 0 0)
  have bN := Boxed.new ((w.alloc (.cells #[.int .i64 n] 3)).alloc (.cells #[.slice none 0 0] 23)) 41 (.int .u64 s)
  rw [World.size_alloc] at bO
  rw [World.size_alloc, World.size_alloc] at bN
  have hB0 : Below w.heap.size w (((w.alloc (.cells #[.int .i64 n] 3)).alloc (.cells #[.slice none 0 0] 23)).alloc (.cells #[.int .u64 s] 41)) := (((Below.refl _ w).alloc (Nat.le_refl _) _).alloc (by simp) _).alloc (by simp; omega) _
  have hI0 : BktI w n (.int .u64 s) [] (((w.alloc (.cells #[.int .i64 n] 3)).alloc (.cells #[.slice none 0 0] 23)).alloc (.cells #[.int .u64 s] 41)) := ⟨⟨_, bO.alloc _, World.ownsRow_nil _ _ _ _⟩, bN, (bX.alloc _).alloc _, hB0⟩
  have HI0 := hid hI0
  clear hI0 hB0 bN bO bX HSM
  refine wpIn_rangeFunc_run hro (by omega) (gf := 80) (lb := #[.pointer (some ⟨w.heap.size + 2, 0, none⟩)]) rfl trivial (enters_of Tryz.func80 (by kernel_rfl) rfl)
    (mem1_runs Fence.wide _ trivial hro (by omega) (w.heap.size + 2) s hs) (fun _ => rfl) (BktI w n) (fun c pre W h => h.2.1)
    (fun c c' pre W h => ?set) (fun c pre W h => ⟨h.1, h.2.1, h.2.2.1, h.2.2.2.drew⟩) (fun c pre W o h => h.kept (World.grownBy_alloc W o none) (fun r e => by cases e))
    (fun c pre W r o o' h hr ho hcl => h.kept (grownBy_putObj' W r o') (fun j e => by cases e; exact ⟨by simp at hr; omega, o, ho, hcl⟩))
    HI0.out ?a1 ?assign ?body ?done
  case a1 => exact (fun x => { tmps := #[.int .u64 s, .int .i64 n, undef, .pointer (some ⟨w.heap.size, 0, none⟩), .slice none 0 0, .int .i64 0, .int .i64 0, .pointer (some ⟨w.heap.size + 1, 0, none⟩), .int .i64 x, .int .i64 n, .int .i64 0, .int .i64 0, .bool false, undef, .int .u64 s, .func (.func 80) #[] #[.pointer (some ⟨w.heap.size + 2, 0, none⟩)], .int .i64 x, undef, undef, undef, undef, undef, undef, undef, undef, undef, undef], defers := [] })
  case set =>
    obtain ⟨⟨v, hb, hrow⟩, hc, hn, hB⟩ := h
    exact ⟨⟨v, hb.other (by omega) _, hrow.kept (grownBy_setCell' W _ _) (.inr (hc.not_row (by decide) hrow).symm)⟩, hc.set c', hn.other (by omega) _, hB.setCell (p := ⟨w.heap.size + 2, 0, none⟩) (by show _ ≤ w.heap.size + 2; omega) _⟩
  case assign =>
    intro l x W K hK
    gi_wp2
    exact hK
  case body =>
    rintro l c pre x W ⟨⟨v, hb0, hrow0⟩, hc0, hn0, hB0⟩ hx hlt
    have hml := mems_length s 64
    have hx64 := (mem_mems.1 hx).1
    gi_wp2
    refine wpIn_region_any (by kernel_rfl) ?_
    change wpAnyIn _ _ _ _ _ _ _ _ _ (World.drew _)
    obtain ⟨U, hU⟩ : ∃ U, U = W.drew := ⟨_, rfl⟩
    rw [← hU]
    have hKW : KeepsOthers W U := by rw [hU]; exact KeepsOthers.drew W
    have hb : Boxed U (w.heap.size + 1) 23 v := by rw [hU]; exact hb0
    have hrow : U.ownsRow (w.heap.size + 1) 3 1 v pre.length (nums (pre.map (· % n))) := by rw [hU]; exact hrow0.drew
    have hc : Boxed U (w.heap.size + 2) 41 c := by rw [hU]; exact hc0
    have hn : Boxed U w.heap.size 3 (.int .i64 n) := by rw [hU]; exact hn0
    have hB : Below w.heap.size w U := by rw [hU]; exact hB0.drew
    have LB := hid (show w.heap.size + 1 < U.heap.size from lt_of_block hb)
    have lb := LB.out
    have FN := hid (fun (v' : Value) (w1 : World) (hown' : w1.ownsRow (w.heap.size + 1) 3 1 v' (pre.length + 1) (nums (pre.map (· % n)) ++ [.int .i64 ((x : Int).tmod (n : Int))])) (hgrow : (U.alloc (.cells #[.int .i64 ((x : Int).tmod (n : Int))] 3)).grownBy w1 v.ownBlock) =>
      (show KeepsOthers W (w1.setCell ⟨w.heap.size + 1, 0, none⟩ v') ∧ BktI w n c (pre ++ [x]) (w1.setCell ⟨w.heap.size + 1, 0, none⟩ v') by
        obtain ⟨hv1, hv2, hr2, hk2, hb2⟩ := hb.appended (by decide) hrow (Nat.le_of_lt LB.out) (Nat.le_refl _) hown' hgrow
        refine ⟨hKW.trans hk2, ⟨_, hv2, by rw [nums_map_mod, List.length_append]; exact hr2⟩, ((hc.alloc _).kept hgrow (hc.not_row (by decide) hrow)).other (by omega) _, ((hn.alloc _).kept hgrow (fun e => by have := (hrow.lt _ e.symm).1; omega)).other (by omega) _, hB.trans (hb2.mono (by omega))⟩))
    have cO := hb.cell
    have dz : ¬ (n = 0) := by omega
    have cN := hn.cell
    clear hU hKW hb0 hrow0 hc0 hn0 hB0
    refine wpAnyIn_ready (rs := [0, 1, 2]) (by kernel_rfl) (by simp) ?_
    refine AllReadyIn.cons rfl (fun K hK => ?_) ?_
    · go_simp
      refine hK _ _ ?_
      clear hK K
      refine wpAnyIn_ready (rs := [1, 2]) (by kernel_rfl) (by simp) ?_
      refine AllReadyIn.cons rfl (fun K hK => ?_) ?_
      · go_simp
        refine hK _ _ ?_
        clear hK K
        refine wpAnyIn_ready (rs := [2]) (by kernel_rfl) (by simp) ?_
        refine AllReadyIn.cons rfl (fun K hK => ?_) ?_
        · go_simp
          refine hK _ _ ?_
          clear hK K
          refine wpAnyIn_ready (rs := [3]) (by kernel_rfl) (by simp) ?_
          refine AllReadyIn.cons rfl (fun K hK => ?_) ?_
          · go_simp
            refine hK _ _ ?_
            clear hK K
            refine wpAnyIn_ready (rs := [4]) (by kernel_rfl) (by simp) ?_
            refine AllReadyIn.cons rfl (fun K hK => ?_) ?_
            · go_simp
              refine hK _ _ ?_
              clear hK K
              refine wpAnyIn_ready (rs := [5]) (by kernel_rfl) (by simp) ?_
              refine AllReadyIn.cons rfl (fun K hK => ?_) ?_
              · refine step_appIn _ rfl (.tmp 17) (.tmp 21) 23 rfl (w.heap.size + 1) 3 i0 (.int .i64 0) 1 8 Tryz.underlying23 hi hz0 hz1 hz2 rfl (by decide) v pre.length (nums (pre.map (· % n))) (by simp [Act.eval]) (hrow.alloc _) ⟨U.heap.size, 0, none⟩ 1 1 [.int .i64 ((x : Int).tmod (n : Int))] (by simp [Act.eval]) rfl (cell_one_new _ _ _) (by simp [Value.oneCell']) (by unfold maxLen; omega) (by omega) (by have := LB.out; simp; omega) ?_
                intro v' w1 hown' hgrow _
                obtain ⟨g', cap', rfl⟩ := ownsRow_succ hown'
                obtain ⟨hv1, hv2, hr2, hk2, hb2⟩ := hb.appended (by decide) hrow (Nat.le_of_lt LB.out) (Nat.le_refl _) hown' hgrow
                have hc1 := hv1.cell
                have hf1 := hv1.frozen
                have FIN := FN.out _ w1 hown' hgrow
                refine hK _ _ ?_
                clear hK K
                refine wpAnyIn_ready (rs := [6]) (by kernel_rfl) (by simp) ?_
                refine AllReadyIn.cons rfl (fun K hK => ?_) ?_
                · go_simp
                  refine hK _ _ ?_
                  clear hK K
                  refine wpAnyIn_done (by kernel_rfl) ?_ _
                  exact FIN
                exact AllReadyIn.nil
              exact AllReadyIn.nil
            exact AllReadyIn.nil
          exact AllReadyIn.nil
        exact AllReadyIn.nil
      refine AllReadyIn.cons rfl (fun K hK => ?_) ?_
      · go_simp
        refine hK _ _ ?_
        clear hK K
        refine wpAnyIn_ready (rs := [1]) (by kernel_rfl) (by simp) ?_
        refine AllReadyIn.cons rfl (fun K hK => ?_) ?_
        · go_simp
          refine hK _ _ ?_
          clear hK K
          refine wpAnyIn_ready (rs := [3]) (by kernel_rfl) (by simp) ?_
          refine AllReadyIn.cons rfl (fun K hK => ?_) ?_
          · go_simp
            refine hK _ _ ?_
            clear hK K
            refine wpAnyIn_ready (rs := [4]) (by kernel_rfl) (by simp) ?_
            refine AllReadyIn.cons rfl (fun K hK => ?_) ?_
            · go_simp
              refine hK _ _ ?_
              clear hK K
              refine wpAnyIn_ready (rs := [5]) (by kernel_rfl) (by simp) ?_
              refine AllReadyIn.cons rfl (fun K hK => ?_) ?_
              · refine step_appIn _ rfl (.tmp 17) (.tmp 21) 23 rfl (w.heap.size + 1) 3 i0 (.int .i64 0) 1 8 Tryz.underlying23 hi hz0 hz1 hz2 rfl (by decide) v pre.length (nums (pre.map (· % n))) (by simp [Act.eval]) (hrow.alloc _) ⟨U.heap.size, 0, none⟩ 1 1 [.int .i64 ((x : Int).tmod (n : Int))] (by simp [Act.eval]) rfl (cell_one_new _ _ _) (by simp [Value.oneCell']) (by unfold maxLen; omega) (by omega) (by have := LB.out; simp; omega) ?_
                intro v' w1 hown' hgrow _
                obtain ⟨g', cap', rfl⟩ := ownsRow_succ hown'
                obtain ⟨hv1, hv2, hr2, hk2, hb2⟩ := hb.appended (by decide) hrow (Nat.le_of_lt LB.out) (Nat.le_refl _) hown' hgrow
                have hc1 := hv1.cell
                have hf1 := hv1.frozen
                have FIN := FN.out _ w1 hown' hgrow
                refine hK _ _ ?_
                clear hK K
                refine wpAnyIn_ready (rs := [6]) (by kernel_rfl) (by simp) ?_
                refine AllReadyIn.cons rfl (fun K hK => ?_) ?_
                · go_simp
                  refine hK _ _ ?_
                  clear hK K
                  refine wpAnyIn_done (by kernel_rfl) ?_ _
                  exact FIN
                exact AllReadyIn.nil
              exact AllReadyIn.nil
            exact AllReadyIn.nil
          exact AllReadyIn.nil
        exact AllReadyIn.nil
      exact AllReadyIn.nil
    refine AllReadyIn.cons rfl (fun K hK => ?_) ?_
    · go_simp
      refine hK _ _ ?_
      clear hK K
      refine wpAnyIn_ready (rs := [0, 2]) (by kernel_rfl) (by simp) ?_
      refine AllReadyIn.cons rfl (fun K hK => ?_) ?_
      · go_simp
        refine hK _ _ ?_
        clear hK K
        refine wpAnyIn_ready (rs := [2]) (by kernel_rfl) (by simp) ?_
        refine AllReadyIn.cons rfl (fun K hK => ?_) ?_
        · go_simp
          refine hK _ _ ?_
          clear hK K
          refine wpAnyIn_ready (rs := [3]) (by kernel_rfl) (by simp) ?_
          refine AllReadyIn.cons rfl (fun K hK => ?_) ?_
          · go_simp
            refine hK _ _ ?_
            clear hK K
            refine wpAnyIn_ready (rs := [4]) (by kernel_rfl) (by simp) ?_
            refine AllReadyIn.cons rfl (fun K hK => ?_) ?_
            · go_simp
              refine hK _ _ ?_
              clear hK K
              refine wpAnyIn_ready (rs := [5]) (by kernel_rfl) (by simp) ?_
              refine AllReadyIn.cons rfl (fun K hK => ?_) ?_
              · refine step_appIn _ rfl (.tmp 17) (.tmp 21) 23 rfl (w.heap.size + 1) 3 i0 (.int .i64 0) 1 8 Tryz.underlying23 hi hz0 hz1 hz2 rfl (by decide) v pre.length (nums (pre.map (· % n))) (by simp [Act.eval]) (hrow.alloc _) ⟨U.heap.size, 0, none⟩ 1 1 [.int .i64 ((x : Int).tmod (n : Int))] (by simp [Act.eval]) rfl (cell_one_new _ _ _) (by simp [Value.oneCell']) (by unfold maxLen; omega) (by omega) (by have := LB.out; simp; omega) ?_
                intro v' w1 hown' hgrow _
                obtain ⟨g', cap', rfl⟩ := ownsRow_succ hown'
                obtain ⟨hv1, hv2, hr2, hk2, hb2⟩ := hb.appended (by decide) hrow (Nat.le_of_lt LB.out) (Nat.le_refl _) hown' hgrow
                have hc1 := hv1.cell
                have hf1 := hv1.frozen
                have FIN := FN.out _ w1 hown' hgrow
                refine hK _ _ ?_
                clear hK K
                refine wpAnyIn_ready (rs := [6]) (by kernel_rfl) (by simp) ?_
                refine AllReadyIn.cons rfl (fun K hK => ?_) ?_
                · go_simp
                  refine hK _ _ ?_
                  clear hK K
                  refine wpAnyIn_done (by kernel_rfl) ?_ _
                  exact FIN
                exact AllReadyIn.nil
              exact AllReadyIn.nil
            exact AllReadyIn.nil
          exact AllReadyIn.nil
        exact AllReadyIn.nil
      refine AllReadyIn.cons rfl (fun K hK => ?_) ?_
      · go_simp
        refine hK _ _ ?_
        clear hK K
        refine wpAnyIn_ready (rs := [0, 3]) (by kernel_rfl) (by simp) ?_
        refine AllReadyIn.cons rfl (fun K hK => ?_) ?_
        · go_simp
          refine hK _ _ ?_
          clear hK K
          refine wpAnyIn_ready (rs := [3]) (by kernel_rfl) (by simp) ?_
          refine AllReadyIn.cons rfl (fun K hK => ?_) ?_
          · go_simp
            refine hK _ _ ?_
            clear hK K
            refine wpAnyIn_ready (rs := [4]) (by kernel_rfl) (by simp) ?_
            refine AllReadyIn.cons rfl (fun K hK => ?_) ?_
            · go_simp
              refine hK _ _ ?_
              clear hK K
              refine wpAnyIn_ready (rs := [5]) (by kernel_rfl) (by simp) ?_
              refine AllReadyIn.cons rfl (fun K hK => ?_) ?_
              · refine step_appIn _ rfl (.tmp 17) (.tmp 21) 23 rfl (w.heap.size + 1) 3 i0 (.int .i64 0) 1 8 Tryz.underlying23 hi hz0 hz1 hz2 rfl (by decide) v pre.length (nums (pre.map (· % n))) (by simp [Act.eval]) (hrow.alloc _) ⟨U.heap.size, 0, none⟩ 1 1 [.int .i64 ((x : Int).tmod (n : Int))] (by simp [Act.eval]) rfl (cell_one_new _ _ _) (by simp [Value.oneCell']) (by unfold maxLen; omega) (by omega) (by have := LB.out; simp; omega) ?_
                intro v' w1 hown' hgrow _
                obtain ⟨g', cap', rfl⟩ := ownsRow_succ hown'
                obtain ⟨hv1, hv2, hr2, hk2, hb2⟩ := hb.appended (by decide) hrow (Nat.le_of_lt LB.out) (Nat.le_refl _) hown' hgrow
                have hc1 := hv1.cell
                have hf1 := hv1.frozen
                have FIN := FN.out _ w1 hown' hgrow
                refine hK _ _ ?_
                clear hK K
                refine wpAnyIn_ready (rs := [6]) (by kernel_rfl) (by simp) ?_
                refine AllReadyIn.cons rfl (fun K hK => ?_) ?_
                · go_simp
                  refine hK _ _ ?_
                  clear hK K
                  refine wpAnyIn_done (by kernel_rfl) ?_ _
                  exact FIN
                exact AllReadyIn.nil
              exact AllReadyIn.nil
            exact AllReadyIn.nil
          exact AllReadyIn.nil
        refine AllReadyIn.cons rfl (fun K hK => ?_) ?_
        · go_simp
          refine hK _ _ ?_
          clear hK K
          refine wpAnyIn_ready (rs := [0, 4]) (by kernel_rfl) (by simp) ?_
          refine AllReadyIn.cons rfl (fun K hK => ?_) ?_
          · go_simp
            refine hK _ _ ?_
            clear hK K
            refine wpAnyIn_ready (rs := [4]) (by kernel_rfl) (by simp) ?_
            refine AllReadyIn.cons rfl (fun K hK => ?_) ?_
            · go_simp
              refine hK _ _ ?_
              clear hK K
              refine wpAnyIn_ready (rs := [5]) (by kernel_rfl) (by simp) ?_
              refine AllReadyIn.cons rfl (fun K hK => ?_) ?_
              · refine step_appIn _ rfl (.tmp 17) (.tmp 21) 23 rfl (w.heap.size + 1) 3 i0 (.int .i64 0) 1 8 Tryz.underlying23 hi hz0 hz1 hz2 rfl (by decide) v pre.length (nums (pre.map (· % n))) (by simp [Act.eval]) (hrow.alloc _) ⟨U.heap.size, 0, none⟩ 1 1 [.int .i64 ((x : Int).tmod (n : Int))] (by simp [Act.eval]) rfl (cell_one_new _ _ _) (by simp [Value.oneCell']) (by unfold maxLen; omega) (by omega) (by have := LB.out; simp; omega) ?_
                intro v' w1 hown' hgrow _
                obtain ⟨g', cap', rfl⟩ := ownsRow_succ hown'
                obtain ⟨hv1, hv2, hr2, hk2, hb2⟩ := hb.appended (by decide) hrow (Nat.le_of_lt LB.out) (Nat.le_refl _) hown' hgrow
                have hc1 := hv1.cell
                have hf1 := hv1.frozen
                have FIN := FN.out _ w1 hown' hgrow
                refine hK _ _ ?_
                clear hK K
                refine wpAnyIn_ready (rs := [6]) (by kernel_rfl) (by simp) ?_
                refine AllReadyIn.cons rfl (fun K hK => ?_) ?_
                · go_simp
                  refine hK _ _ ?_
                  clear hK K
                  refine wpAnyIn_done (by kernel_rfl) ?_ _
                  exact FIN
                exact AllReadyIn.nil
              exact AllReadyIn.nil
            exact AllReadyIn.nil
          refine AllReadyIn.cons rfl (fun K hK => ?_) ?_
          · go_simp
            refine hK _ _ ?_
            clear hK K
            refine wpAnyIn_ready (rs := [0]) (by kernel_rfl) (by simp) ?_
            refine AllReadyIn.cons rfl (fun K hK => ?_) ?_
            · go_simp
              refine hK _ _ ?_
              clear hK K
              refine wpAnyIn_ready (rs := [5]) (by kernel_rfl) (by simp) ?_
              refine AllReadyIn.cons rfl (fun K hK => ?_) ?_
              · refine step_appIn _ rfl (.tmp 17) (.tmp 21) 23 rfl (w.heap.size + 1) 3 i0 (.int .i64 0) 1 8 Tryz.underlying23 hi hz0 hz1 hz2 rfl (by decide) v pre.length (nums (pre.map (· % n))) (by simp [Act.eval]) (hrow.alloc _) ⟨U.heap.size, 0, none⟩ 1 1 [.int .i64 ((x : Int).tmod (n : Int))] (by simp [Act.eval]) rfl (cell_one_new _ _ _) (by simp [Value.oneCell']) (by unfold maxLen; omega) (by omega) (by have := LB.out; simp; omega) ?_
                intro v' w1 hown' hgrow _
                obtain ⟨g', cap', rfl⟩ := ownsRow_succ hown'
                obtain ⟨hv1, hv2, hr2, hk2, hb2⟩ := hb.appended (by decide) hrow (Nat.le_of_lt LB.out) (Nat.le_refl _) hown' hgrow
                have hc1 := hv1.cell
                have hf1 := hv1.frozen
                have FIN := FN.out _ w1 hown' hgrow
                refine hK _ _ ?_
                clear hK K
                refine wpAnyIn_ready (rs := [6]) (by kernel_rfl) (by simp) ?_
                refine AllReadyIn.cons rfl (fun K hK => ?_) ?_
                · go_simp
                  refine hK _ _ ?_
                  clear hK K
                  refine wpAnyIn_done (by kernel_rfl) ?_ _
                  exact FIN
                exact AllReadyIn.nil
              exact AllReadyIn.nil
            exact AllReadyIn.nil
          exact AllReadyIn.nil
        exact AllReadyIn.nil
      exact AllReadyIn.nil
    refine AllReadyIn.cons rfl (fun K hK => ?_) ?_
    · go_simp
      refine hK _ _ ?_
      clear hK K
      refine wpAnyIn_ready (rs := [0, 1]) (by kernel_rfl) (by simp) ?_
      refine AllReadyIn.cons rfl (fun K hK => ?_) ?_
      · go_simp
        refine hK _ _ ?_
        clear hK K
        refine wpAnyIn_ready (rs := [1]) (by kernel_rfl) (by simp) ?_
        refine AllReadyIn.cons rfl (fun K hK => ?_) ?_
        · go_simp
          refine hK _ _ ?_
          clear hK K
          refine wpAnyIn_ready (rs := [3]) (by kernel_rfl) (by simp) ?_
          refine AllReadyIn.cons rfl (fun K hK => ?_) ?_
          · go_simp
            refine hK _ _ ?_
            clear hK K
            refine wpAnyIn_ready (rs := [4]) (by kernel_rfl) (by simp) ?_
            refine AllReadyIn.cons rfl (fun K hK => ?_) ?_
            · go_simp
              refine hK _ _ ?_
              clear hK K
              refine wpAnyIn_ready (rs := [5]) (by kernel_rfl) (by simp) ?_
              refine AllReadyIn.cons rfl (fun K hK => ?_) ?_
              · refine step_appIn _ rfl (.tmp 17) (.tmp 21) 23 rfl (w.heap.size + 1) 3 i0 (.int .i64 0) 1 8 Tryz.underlying23 hi hz0 hz1 hz2 rfl (by decide) v pre.length (nums (pre.map (· % n))) (by simp [Act.eval]) (hrow.alloc _) ⟨U.heap.size, 0, none⟩ 1 1 [.int .i64 ((x : Int).tmod (n : Int))] (by simp [Act.eval]) rfl (cell_one_new _ _ _) (by simp [Value.oneCell']) (by unfold maxLen; omega) (by omega) (by have := LB.out; simp; omega) ?_
                intro v' w1 hown' hgrow _
                obtain ⟨g', cap', rfl⟩ := ownsRow_succ hown'
                obtain ⟨hv1, hv2, hr2, hk2, hb2⟩ := hb.appended (by decide) hrow (Nat.le_of_lt LB.out) (Nat.le_refl _) hown' hgrow
                have hc1 := hv1.cell
                have hf1 := hv1.frozen
                have FIN := FN.out _ w1 hown' hgrow
                refine hK _ _ ?_
                clear hK K
                refine wpAnyIn_ready (rs := [6]) (by kernel_rfl) (by simp) ?_
                refine AllReadyIn.cons rfl (fun K hK => ?_) ?_
                · go_simp
                  refine hK _ _ ?_
                  clear hK K
                  refine wpAnyIn_done (by kernel_rfl) ?_ _
                  exact FIN
                exact AllReadyIn.nil
              exact AllReadyIn.nil
            exact AllReadyIn.nil
          exact AllReadyIn.nil
        exact AllReadyIn.nil
      refine AllReadyIn.cons rfl (fun K hK => ?_) ?_
      · go_simp
        refine hK _ _ ?_
        clear hK K
        refine wpAnyIn_ready (rs := [0, 3]) (by kernel_rfl) (by simp) ?_
        refine AllReadyIn.cons rfl (fun K hK => ?_) ?_
        · go_simp
          refine hK _ _ ?_
          clear hK K
          refine wpAnyIn_ready (rs := [3]) (by kernel_rfl) (by simp) ?_
          refine AllReadyIn.cons rfl (fun K hK => ?_) ?_
          · go_simp
            refine hK _ _ ?_
            clear hK K
            refine wpAnyIn_ready (rs := [4]) (by kernel_rfl) (by simp) ?_
            refine AllReadyIn.cons rfl (fun K hK => ?_) ?_
            · go_simp
              refine hK _ _ ?_
              clear hK K
              refine wpAnyIn_ready (rs := [5]) (by kernel_rfl) (by simp) ?_
              refine AllReadyIn.cons rfl (fun K hK => ?_) ?_
              · refine step_appIn _ rfl (.tmp 17) (.tmp 21) 23 rfl (w.heap.size + 1) 3 i0 (.int .i64 0) 1 8 Tryz.underlying23 hi hz0 hz1 hz2 rfl (by decide) v pre.length (nums (pre.map (· % n))) (by simp [Act.eval]) (hrow.alloc _) ⟨U.heap.size, 0, none⟩ 1 1 [.int .i64 ((x : Int).tmod (n : Int))] (by simp [Act.eval]) rfl (cell_one_new _ _ _) (by simp [Value.oneCell']) (by unfold maxLen; omega) (by omega) (by have := LB.out; simp; omega) ?_
                intro v' w1 hown' hgrow _
                obtain ⟨g', cap', rfl⟩ := ownsRow_succ hown'
                obtain ⟨hv1, hv2, hr2, hk2, hb2⟩ := hb.appended (by decide) hrow (Nat.le_of_lt LB.out) (Nat.le_refl _) hown' hgrow
                have hc1 := hv1.cell
                have hf1 := hv1.frozen
                have FIN := FN.out _ w1 hown' hgrow
                refine hK _ _ ?_
                clear hK K
                refine wpAnyIn_ready (rs := [6]) (by kernel_rfl) (by simp) ?_
                refine AllReadyIn.cons rfl (fun K hK => ?_) ?_
                · go_simp
                  refine hK _ _ ?_
                  clear hK K
                  refine wpAnyIn_done (by kernel_rfl) ?_ _
                  exact FIN
                exact AllReadyIn.nil
              exact AllReadyIn.nil
            exact AllReadyIn.nil
          exact AllReadyIn.nil
        refine AllReadyIn.cons rfl (fun K hK => ?_) ?_
        · go_simp
          refine hK _ _ ?_
          clear hK K
          refine wpAnyIn_ready (rs := [0, 4]) (by kernel_rfl) (by simp) ?_
          refine AllReadyIn.cons rfl (fun K hK => ?_) ?_
          · go_simp
            refine hK _ _ ?_
            clear hK K
            refine wpAnyIn_ready (rs := [4]) (by kernel_rfl) (by simp) ?_
            refine AllReadyIn.cons rfl (fun K hK => ?_) ?_
            · go_simp
              refine hK _ _ ?_
              clear hK K
              refine wpAnyIn_ready (rs := [5]) (by kernel_rfl) (by simp) ?_
              refine AllReadyIn.cons rfl (fun K hK => ?_) ?_
              · refine step_appIn _ rfl (.tmp 17) (.tmp 21) 23 rfl (w.heap.size + 1) 3 i0 (.int .i64 0) 1 8 Tryz.underlying23 hi hz0 hz1 hz2 rfl (by decide) v pre.length (nums (pre.map (· % n))) (by simp [Act.eval]) (hrow.alloc _) ⟨U.heap.size, 0, none⟩ 1 1 [.int .i64 ((x : Int).tmod (n : Int))] (by simp [Act.eval]) rfl (cell_one_new _ _ _) (by simp [Value.oneCell']) (by unfold maxLen; omega) (by omega) (by have := LB.out; simp; omega) ?_
                intro v' w1 hown' hgrow _
                obtain ⟨g', cap', rfl⟩ := ownsRow_succ hown'
                obtain ⟨hv1, hv2, hr2, hk2, hb2⟩ := hb.appended (by decide) hrow (Nat.le_of_lt LB.out) (Nat.le_refl _) hown' hgrow
                have hc1 := hv1.cell
                have hf1 := hv1.frozen
                have FIN := FN.out _ w1 hown' hgrow
                refine hK _ _ ?_
                clear hK K
                refine wpAnyIn_ready (rs := [6]) (by kernel_rfl) (by simp) ?_
                refine AllReadyIn.cons rfl (fun K hK => ?_) ?_
                · go_simp
                  refine hK _ _ ?_
                  clear hK K
                  refine wpAnyIn_done (by kernel_rfl) ?_ _
                  exact FIN
                exact AllReadyIn.nil
              exact AllReadyIn.nil
            exact AllReadyIn.nil
          refine AllReadyIn.cons rfl (fun K hK => ?_) ?_
          · go_simp
            refine hK _ _ ?_
            clear hK K
            refine wpAnyIn_ready (rs := [0]) (by kernel_rfl) (by simp) ?_
            refine AllReadyIn.cons rfl (fun K hK => ?_) ?_
            · go_simp
              refine hK _ _ ?_
              clear hK K
              refine wpAnyIn_ready (rs := [5]) (by kernel_rfl) (by simp) ?_
              refine AllReadyIn.cons rfl (fun K hK => ?_) ?_
              · refine step_appIn _ rfl (.tmp 17) (.tmp 21) 23 rfl (w.heap.size + 1) 3 i0 (.int .i64 0) 1 8 Tryz.underlying23 hi hz0 hz1 hz2 rfl (by decide) v pre.length (nums (pre.map (· % n))) (by simp [Act.eval]) (hrow.alloc _) ⟨U.heap.size, 0, none⟩ 1 1 [.int .i64 ((x : Int).tmod (n : Int))] (by simp [Act.eval]) rfl (cell_one_new _ _ _) (by simp [Value.oneCell']) (by unfold maxLen; omega) (by omega) (by have := LB.out; simp; omega) ?_
                intro v' w1 hown' hgrow _
                obtain ⟨g', cap', rfl⟩ := ownsRow_succ hown'
                obtain ⟨hv1, hv2, hr2, hk2, hb2⟩ := hb.appended (by decide) hrow (Nat.le_of_lt LB.out) (Nat.le_refl _) hown' hgrow
                have hc1 := hv1.cell
                have hf1 := hv1.frozen
                have FIN := FN.out _ w1 hown' hgrow
                refine hK _ _ ?_
                clear hK K
                refine wpAnyIn_ready (rs := [6]) (by kernel_rfl) (by simp) ?_
                refine AllReadyIn.cons rfl (fun K hK => ?_) ?_
                · go_simp
                  refine hK _ _ ?_
                  clear hK K
                  refine wpAnyIn_done (by kernel_rfl) ?_ _
                  exact FIN
                exact AllReadyIn.nil
              exact AllReadyIn.nil
            exact AllReadyIn.nil
          exact AllReadyIn.nil
        exact AllReadyIn.nil
      exact AllReadyIn.nil
    exact AllReadyIn.nil
  case done =>
    rintro D c W hD ⟨⟨v, hv, hrow⟩, hc, hn, hB⟩ hK
    have hcc := hv.cell
    have hlm := mems_length s 64
    have hbl : (ints (bmapTo s n 64)).length = (mems s 64).length := by simp [ints, bmapTo]
    have hrow' : W.ownsRow (w.heap.size + 1) 3 1 v (ints (bmapTo s n 64)).length (i64s (ints (bmapTo s n 64))) := by rw [hbl]; exact hrow
    have HS := hid (sort_row hrow' (by omega))
    have hml := (List.mergeSort_perm (ints (bmapTo s n 64)) (fun x y => decide (x ≤ y))).length_eq
    have HV := hid hv
    have HROW := hid hrow'
    have HKD := hid hK
    have HBB := hid hB
    have HE := hid (bkts_eq (s := s) (n := n) (by omega) hs)
    have hrl := fun k hk => (hrow'.lt k hk).2
    have HRL := hid hrl
    have hnr : ∀ k, v.ownBlock = some k → ∃ cs, W.heap[k]? = some (.cells cs 3 (0, 0)) := fun k hk => by
      rcases hrow'.2 with ⟨rfl, _⟩ | ⟨g, cap, cur, rfl, _, hgb, _⟩
      · cases hk
      · simp only [Value.ownBlock, Option.some.injEq] at hk; subst hk; exact ⟨cur, hgb⟩
    have HNR := hid hnr
    have HNE := hid (hv.not_row (by decide) hrow')
    clear hv hrow hrow' hc hn hB hK hrl hnr
    gi_wp2_with (refine ⟨trivial, ?_⟩; gi_at_call 82; refine ((callsIn_wide (n := _)).2 HS.out).mono ?_; rintro e W1 ⟨rfl, hr1, hg1⟩; have hcc1 := (HV.out.kept hg1 HNE.out).cell; rw [← hml] at hr1; have HC := hid (comp_row hr1 (by omega)); have HG1 := hid hg1; clear hr1 hg1)
    gi_wp2_with (refine ⟨trivial, ?_⟩; gi_at_call 83; refine ((callsIn_wide (n := _)).2 HC.out).mono ?_; rintro e W2 ⟨r, rfl, hr2, hg2, ho2⟩)
    rw [HE.out] at hr2
    have nD : some D ≠ v.ownBlock := fun e => by
      obtain ⟨cs, hcs⟩ := HNR.out D e.symm
      rw [HKD.out] at hcs; cases hcs
    have nD' : v.ownBlock ≠ some D := fun e => nD e.symm
    have hl1 : D < W1.heap.size := by have := HG1.out.size; have := lt_of_block HKD.out; omega
    have hD1 : W1.heap[D]? = some (.deferred (some [])) := (HG1.out.block D (lt_of_block HKD.out) (fun e => nD e)).trans HKD.out
    have hD2 : W2.heap[D]? = some (.deferred (some [])) := (hg2.block D hl1 (fun e => nD e)).trans hD1
    have hge : ∀ k, v.ownBlock = some k → w.heap.size ≤ k := fun k hk => by have := (HROW.out.lt k hk).1; omega
    have hkk := (((Keep.of_below HBB.out).grown HG1.out (fun k hk => .inr (hge k hk))).grown hg2 (fun k hk => .inr (hge k hk))).putObj (show w.heap.size ≤ D by simp at hD; omega)
    rw [show (ints (bkts s n)).length = (bkts s n).length by simp [ints]] at hr2
    refine ⟨by simp, .inl ⟨_, _, rfl, run_takeDeferred hD2, ?_⟩⟩
    exact ⟨_, results_tmp2 rfl _ _ _, r, rfl, Rd.putObj _ hr2 hD2 rfl, hkk _, fun k hk => hge k (by rw [← ho2]; exact hk)⟩
end Go.Proofs.YtldjlcdccnnogaaGreat
