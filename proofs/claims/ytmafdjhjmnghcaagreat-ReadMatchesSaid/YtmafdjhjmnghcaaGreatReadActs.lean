/- read: what a step may do, by its pc. -/
import Derived.Test.YtmafdjhjmnghcaaGreatProg
import Derived.Test.YtmafdjhjmnghcaaGreatBase
import Derived.Laws.EntriesVeiled
set_option linter.unusedVariables false
set_option linter.unusedSimpArgs false
namespace Go.Proofs.YtmafdjhjmnghcaaGreat
open Go.RowKit Go.Lf
theorem infoActs : (Tryz.prog.info? 175).map (·.size) = some 28 := by kernel_rfl
/-- What a step may do, by its pc. -/
def actsC : Array Value := #[.nilFunc, .nilFunc, .nilFunc, .nilFunc, .nilFunc, .nilFunc, .nilFunc, .nilFunc, .nilFunc, .nilFunc, .nilFunc, .nilFunc, .nilFunc, .nilFunc, .nilFunc, .nilFunc, .nilFunc, .nilFunc, .nilFunc, .nilFunc, .nilFunc, .nilFunc, .nilFunc, .func (.func 145) #[] #[], .func (.func 146) #[] #[], .func (.func 147) #[] #[], .func (.func 148) #[] #[], .func (.func 149) #[] #[]]
def actsV : Value := .agg actsC
theorem keep_row {S T : Nat → Prop} {a w : World} (h : Keep S a w) {g : Nat} (cs : Array Value) (hs : ∀ k, S k → T k) (hg : T g ∨ a.heap.size ≤ g) : Keep T a (w.setRow g cs) :=
  ⟨h.os, h.tape, h.output, by rw [size_setRow]; exact h.size, fun k hk hn => by rw [setRow_other w g k cs (fun e => by subst e; exact hg.elim hn (fun h => by omega))]; exact h.block k hk (fun e => hn (hs k e))⟩
section
variable {w : World}
set_option maxRecDepth 100000 in
set_option maxHeartbeats 4000000 in
theorem racts_ok : Calls Tryz.prog 84 #[] w fun e w' => e = .returned actsV ∧ Keep Nil w w' := by
  go_enter Tryz.func84, Tryz.ntmps84
  refine wp_seq_k fun K h => ?_
  have HK := hid h
  clear h
  go_wp2
  refine HK.out _ _ ?_
  clear HK
  refine wp_seq_k fun K h => ?_
  have HK := hid h
  clear h
  go_wp2
  refine HK.out _ _ ?_
  clear HK
  obtain ⟨W, hW⟩ : ∃ W, W = (w.alloc (.cells #[.nilFunc, .nilFunc, .nilFunc, .nilFunc, .nilFunc, .nilFunc, .nilFunc, .nilFunc, .nilFunc, .nilFunc, .nilFunc, .nilFunc, .nilFunc, .nilFunc, .nilFunc, .nilFunc, .nilFunc, .nilFunc, .nilFunc, .nilFunc, .nilFunc, .nilFunc, .nilFunc, .nilFunc, .nilFunc, .nilFunc, .nilFunc, .nilFunc] 175)).alloc (.cells #[.nilFunc, .nilFunc, .nilFunc, .nilFunc, .nilFunc, .nilFunc, .nilFunc, .nilFunc, .nilFunc, .nilFunc, .nilFunc, .nilFunc, .nilFunc, .nilFunc, .nilFunc, .nilFunc, .nilFunc, .nilFunc, .nilFunc, .nilFunc, .nilFunc, .nilFunc, .nilFunc, .nilFunc, .nilFunc, .nilFunc, .nilFunc, .nilFunc] 175) := ⟨_, rfl⟩
  rw [← hW]
  have ha : W.heap[w.heap.size]? = some (.cells #[.nilFunc, .nilFunc, .nilFunc, .nilFunc, .nilFunc, .nilFunc, .nilFunc, .nilFunc, .nilFunc, .nilFunc, .nilFunc, .nilFunc, .nilFunc, .nilFunc, .nilFunc, .nilFunc, .nilFunc, .nilFunc, .nilFunc, .nilFunc, .nilFunc, .nilFunc, .nilFunc, .nilFunc, .nilFunc, .nilFunc, .nilFunc, .nilFunc] 175 (0, 0)) := by rw [hW]; exact alloc_old (heap_alloc_new w _) _
  have hb : W.heap[w.heap.size + 1]? = some (.cells #[.nilFunc, .nilFunc, .nilFunc, .nilFunc, .nilFunc, .nilFunc, .nilFunc, .nilFunc, .nilFunc, .nilFunc, .nilFunc, .nilFunc, .nilFunc, .nilFunc, .nilFunc, .nilFunc, .nilFunc, .nilFunc, .nilFunc, .nilFunc, .nilFunc, .nilFunc, .nilFunc, .nilFunc, .nilFunc, .nilFunc, .nilFunc, .nilFunc] 175 (0, 0)) := by
    rw [hW]
    have := heap_alloc_new (w.alloc (.cells #[.nilFunc, .nilFunc, .nilFunc, .nilFunc, .nilFunc, .nilFunc, .nilFunc, .nilFunc, .nilFunc, .nilFunc, .nilFunc, .nilFunc, .nilFunc, .nilFunc, .nilFunc, .nilFunc, .nilFunc, .nilFunc, .nilFunc, .nilFunc, .nilFunc, .nilFunc, .nilFunc, .nilFunc, .nilFunc, .nilFunc, .nilFunc, .nilFunc] 175)) (.cells #[.nilFunc, .nilFunc, .nilFunc, .nilFunc, .nilFunc, .nilFunc, .nilFunc, .nilFunc, .nilFunc, .nilFunc, .nilFunc, .nilFunc, .nilFunc, .nilFunc, .nilFunc, .nilFunc, .nilFunc, .nilFunc, .nilFunc, .nilFunc, .nilFunc, .nilFunc, .nilFunc, .nilFunc, .nilFunc, .nilFunc, .nilFunc, .nilFunc] 175)
    rwa [World.size_alloc] at this
  have hk : Keep Nil w W := by rw [hW]; exact ((Keep.refl Nil w).alloc _).alloc _
  clear hW
  have x1 : w.heap.size ≠ w.heap.size + 1 := by omega
  have c23 : W.cell? ⟨w.heap.size + 1, 23, none⟩ = some .nilFunc := by rw [cell_of hb]; rfl
  have f23 : W.frozen? ⟨w.heap.size + 1, 23, none⟩ = false := free_of hb 23
  have z23 : w.heap.size + 1 < W.heap.size := lt_of_block hb
  have HA := hid ha
  have HB := hid hb
  have HKW := hid hk
  clear ha hb hk
  refine wp_seq_k fun K h => ?_
  have HK := hid h
  clear h
  go_wp2
  refine HK.out _ _ ?_
  clear HK
  have hb : (W.setCell ⟨w.heap.size + 1, 23, none⟩ (.func (.func 145) #[] #[])).heap[w.heap.size + 1]? = some (.cells #[.nilFunc, .nilFunc, .nilFunc, .nilFunc, .nilFunc, .nilFunc, .nilFunc, .nilFunc, .nilFunc, .nilFunc, .nilFunc, .nilFunc, .nilFunc, .nilFunc, .nilFunc, .nilFunc, .nilFunc, .nilFunc, .nilFunc, .nilFunc, .nilFunc, .nilFunc, .nilFunc, .func (.func 145) #[] #[], .nilFunc, .nilFunc, .nilFunc, .nilFunc] 175 (0, 0)) := set_same HB.out _
  have ha := set_other (p := ⟨w.heap.size + 1, 23, none⟩) HA.out x1 (.func (.func 145) #[] #[])
  have hk := HKW.out.setCell (p := ⟨w.heap.size + 1, 23, none⟩) (.inr (Nat.le_succ _)) (.func (.func 145) #[] #[])
  obtain ⟨W23, hW⟩ : ∃ V : World, V = W.setCell ⟨w.heap.size + 1, 23, none⟩ (.func (.func 145) #[] #[]) := ⟨_, rfl⟩
  rw [← hW] at ha hb hk ⊢
  clear hW HA HB HKW c23 f23 z23
  have c24 : W23.cell? ⟨w.heap.size + 1, 24, none⟩ = some .nilFunc := by rw [cell_of hb]; rfl
  have f24 : W23.frozen? ⟨w.heap.size + 1, 24, none⟩ = false := free_of hb 24
  have z24 : w.heap.size + 1 < W23.heap.size := lt_of_block hb
  have HA := hid ha
  have HB := hid hb
  have HKW := hid hk
  clear ha hb hk
  refine wp_seq_k fun K h => ?_
  have HK := hid h
  clear h
  go_wp2
  refine HK.out _ _ ?_
  clear HK
  have hb : (W23.setCell ⟨w.heap.size + 1, 24, none⟩ (.func (.func 146) #[] #[])).heap[w.heap.size + 1]? = some (.cells #[.nilFunc, .nilFunc, .nilFunc, .nilFunc, .nilFunc, .nilFunc, .nilFunc, .nilFunc, .nilFunc, .nilFunc, .nilFunc, .nilFunc, .nilFunc, .nilFunc, .nilFunc, .nilFunc, .nilFunc, .nilFunc, .nilFunc, .nilFunc, .nilFunc, .nilFunc, .nilFunc, .func (.func 145) #[] #[], .func (.func 146) #[] #[], .nilFunc, .nilFunc, .nilFunc] 175 (0, 0)) := set_same HB.out _
  have ha := set_other (p := ⟨w.heap.size + 1, 24, none⟩) HA.out x1 (.func (.func 146) #[] #[])
  have hk := HKW.out.setCell (p := ⟨w.heap.size + 1, 24, none⟩) (.inr (Nat.le_succ _)) (.func (.func 146) #[] #[])
  obtain ⟨W24, hW⟩ : ∃ V : World, V = W23.setCell ⟨w.heap.size + 1, 24, none⟩ (.func (.func 146) #[] #[]) := ⟨_, rfl⟩
  rw [← hW] at ha hb hk ⊢
  clear hW HA HB HKW c24 f24 z24
  have c25 : W24.cell? ⟨w.heap.size + 1, 25, none⟩ = some .nilFunc := by rw [cell_of hb]; rfl
  have f25 : W24.frozen? ⟨w.heap.size + 1, 25, none⟩ = false := free_of hb 25
  have z25 : w.heap.size + 1 < W24.heap.size := lt_of_block hb
  have HA := hid ha
  have HB := hid hb
  have HKW := hid hk
  clear ha hb hk
  refine wp_seq_k fun K h => ?_
  have HK := hid h
  clear h
  go_wp2
  refine HK.out _ _ ?_
  clear HK
  have hb : (W24.setCell ⟨w.heap.size + 1, 25, none⟩ (.func (.func 147) #[] #[])).heap[w.heap.size + 1]? = some (.cells #[.nilFunc, .nilFunc, .nilFunc, .nilFunc, .nilFunc, .nilFunc, .nilFunc, .nilFunc, .nilFunc, .nilFunc, .nilFunc, .nilFunc, .nilFunc, .nilFunc, .nilFunc, .nilFunc, .nilFunc, .nilFunc, .nilFunc, .nilFunc, .nilFunc, .nilFunc, .nilFunc, .func (.func 145) #[] #[], .func (.func 146) #[] #[], .func (.func 147) #[] #[], .nilFunc, .nilFunc] 175 (0, 0)) := set_same HB.out _
  have ha := set_other (p := ⟨w.heap.size + 1, 25, none⟩) HA.out x1 (.func (.func 147) #[] #[])
  have hk := HKW.out.setCell (p := ⟨w.heap.size + 1, 25, none⟩) (.inr (Nat.le_succ _)) (.func (.func 147) #[] #[])
  obtain ⟨W25, hW⟩ : ∃ V : World, V = W24.setCell ⟨w.heap.size + 1, 25, none⟩ (.func (.func 147) #[] #[]) := ⟨_, rfl⟩
  rw [← hW] at ha hb hk ⊢
  clear hW HA HB HKW c25 f25 z25
  have c26 : W25.cell? ⟨w.heap.size + 1, 26, none⟩ = some .nilFunc := by rw [cell_of hb]; rfl
  have f26 : W25.frozen? ⟨w.heap.size + 1, 26, none⟩ = false := free_of hb 26
  have z26 : w.heap.size + 1 < W25.heap.size := lt_of_block hb
  have HA := hid ha
  have HB := hid hb
  have HKW := hid hk
  clear ha hb hk
  refine wp_seq_k fun K h => ?_
  have HK := hid h
  clear h
  go_wp2
  refine HK.out _ _ ?_
  clear HK
  have hb : (W25.setCell ⟨w.heap.size + 1, 26, none⟩ (.func (.func 148) #[] #[])).heap[w.heap.size + 1]? = some (.cells #[.nilFunc, .nilFunc, .nilFunc, .nilFunc, .nilFunc, .nilFunc, .nilFunc, .nilFunc, .nilFunc, .nilFunc, .nilFunc, .nilFunc, .nilFunc, .nilFunc, .nilFunc, .nilFunc, .nilFunc, .nilFunc, .nilFunc, .nilFunc, .nilFunc, .nilFunc, .nilFunc, .func (.func 145) #[] #[], .func (.func 146) #[] #[], .func (.func 147) #[] #[], .func (.func 148) #[] #[], .nilFunc] 175 (0, 0)) := set_same HB.out _
  have ha := set_other (p := ⟨w.heap.size + 1, 26, none⟩) HA.out x1 (.func (.func 148) #[] #[])
  have hk := HKW.out.setCell (p := ⟨w.heap.size + 1, 26, none⟩) (.inr (Nat.le_succ _)) (.func (.func 148) #[] #[])
  obtain ⟨W26, hW⟩ : ∃ V : World, V = W25.setCell ⟨w.heap.size + 1, 26, none⟩ (.func (.func 148) #[] #[]) := ⟨_, rfl⟩
  rw [← hW] at ha hb hk ⊢
  clear hW HA HB HKW c26 f26 z26
  have c27 : W26.cell? ⟨w.heap.size + 1, 27, none⟩ = some .nilFunc := by rw [cell_of hb]; rfl
  have f27 : W26.frozen? ⟨w.heap.size + 1, 27, none⟩ = false := free_of hb 27
  have z27 : w.heap.size + 1 < W26.heap.size := lt_of_block hb
  have HA := hid ha
  have HB := hid hb
  have HKW := hid hk
  clear ha hb hk
  refine wp_seq_k fun K h => ?_
  have HK := hid h
  clear h
  go_wp2
  refine HK.out _ _ ?_
  clear HK
  have hb : (W26.setCell ⟨w.heap.size + 1, 27, none⟩ (.func (.func 149) #[] #[])).heap[w.heap.size + 1]? = some (.cells #[.nilFunc, .nilFunc, .nilFunc, .nilFunc, .nilFunc, .nilFunc, .nilFunc, .nilFunc, .nilFunc, .nilFunc, .nilFunc, .nilFunc, .nilFunc, .nilFunc, .nilFunc, .nilFunc, .nilFunc, .nilFunc, .nilFunc, .nilFunc, .nilFunc, .nilFunc, .nilFunc, .func (.func 145) #[] #[], .func (.func 146) #[] #[], .func (.func 147) #[] #[], .func (.func 148) #[] #[], .func (.func 149) #[] #[]] 175 (0, 0)) := set_same HB.out _
  have ha := set_other (p := ⟨w.heap.size + 1, 27, none⟩) HA.out x1 (.func (.func 149) #[] #[])
  have hk := HKW.out.setCell (p := ⟨w.heap.size + 1, 27, none⟩) (.inr (Nat.le_succ _)) (.func (.func 149) #[] #[])
  obtain ⟨W27, hW⟩ : ∃ V : World, V = W26.setCell ⟨w.heap.size + 1, 27, none⟩ (.func (.func 149) #[] #[]) := ⟨_, rfl⟩
  rw [← hW] at ha hb hk ⊢
  clear hW HA HB HKW c27 f27 z27
  refine wp_seq ?_
  refine wp_region_list ?_
  refine wpList_load_row rfl 175 _ rfl (w.heap.size + 1) rfl _ _ (0, 0) _ hb Tryz.underlying175 rfl infoActs ?_
  refine wpList_store_row rfl 175 _ _ rfl w.heap.size #[.nilFunc, .nilFunc, .nilFunc, .nilFunc, .nilFunc, .nilFunc, .nilFunc, .nilFunc, .nilFunc, .nilFunc, .nilFunc, .nilFunc, .nilFunc, .nilFunc, .nilFunc, .nilFunc, .nilFunc, .nilFunc, .nilFunc, .nilFunc, .nilFunc, .nilFunc, .nilFunc, .func (.func 145) #[] #[], .func (.func 146) #[] #[], .func (.func 147) #[] #[], .func (.func 148) #[] #[], .func (.func 149) #[] #[]] rfl rfl _ _ ha infoActs rfl (by simp [Value.oneCell']) ?_
  refine wpList_nil ?_
  refine (wp_ret ?_ : Code.wp Tryz.prog Code.ret (bodyPost Tryz.prog Tryz.f84 (fun e w' => e = Ending.returned actsV ∧ Keep Nil w w')) _ _)
  refine bodyPost_ret (results_cell_row rfl _ _ w.heap.size _ _ (0, 0) _ rfl (setRow_heap _ _ _ #[.nilFunc, .nilFunc, .nilFunc, .nilFunc, .nilFunc, .nilFunc, .nilFunc, .nilFunc, .nilFunc, .nilFunc, .nilFunc, .nilFunc, .nilFunc, .nilFunc, .nilFunc, .nilFunc, .nilFunc, .nilFunc, .nilFunc, .nilFunc, .nilFunc, .nilFunc, .nilFunc, .func (.func 145) #[] #[], .func (.func 146) #[] #[], .func (.func 147) #[] #[], .func (.func 148) #[] #[], .func (.func 149) #[] #[]] _ _ ha) Tryz.underlying175 rfl infoActs) rfl ⟨rfl, keep_row hk _ (fun _ h => h) (.inr (Nat.le_refl _))⟩
end
end Go.Proofs.YtmafdjhjmnghcaaGreat
