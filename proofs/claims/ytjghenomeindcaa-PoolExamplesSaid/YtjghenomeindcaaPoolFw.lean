/- law14: few, config. -/
import Derived.Test.YtjghenomeindcaaPoolPl
set_option linter.unusedVariables false
set_option linter.unusedSimpArgs false
namespace Go.Lf
open Go.RowKit
/-- What few asks for. -/
def FewP (zs : List Int) : Prop := (∀ z ∈ zs, 0 ≤ z ∧ z ≤ 40) ∧ zs.sum ≤ 40
def FewTo (zs : List Int) (e : Ending) : Prop := ∃ b, e = .returned (.bool b) ∧ (b = true → FewP zs)
theorem six_at {zs : List Int} {k : Nat} {x : Int} (h : zs[k]? = some x) : (zs.map (Value.int .i64))[k]? = some (.int .i64 x) := by simp [h]
theorem sum_take1 {zs : List Int} {k : Nat} {x : Int} (h : zs[k]? = some x) : (zs.take (k + 1)).sum = (zs.take k).sum + x := by
  rw [List.take_add_one, h]
  simp
theorem sum_bd {l : List Int} (h : ∀ z ∈ l, 0 ≤ z ∧ z ≤ 40) : 0 ≤ l.sum ∧ l.sum ≤ 40 * l.length := by
  induction l with
  | nil => exact ⟨Int.le_refl _, Int.le_refl _⟩
  | cons x l ih =>
    have h1 := h x (List.mem_cons_self ..)
    have h2 := ih fun z hz => h z (List.mem_cons_of_mem _ hz)
    simp only [List.sum_cons, List.length_cons]
    omega
/-- The six numbers. -/
theorem FewP.nats {zs : List Int} (h : FewP zs) : ∃ ts : List Nat, zs = ts.map (fun n : Nat => (n : Int)) ∧ ts.sum ≤ 40 := by
  refine ⟨zs.map Int.toNat, ?_, ?_⟩
  · rw [List.map_map]
    refine (List.map_id zs).symm.trans (List.map_congr_left fun z hz => ?_)
    have := h.1 z hz
    simp
    omega
  · have h1 := h.1
    have h2 := h.2
    have : ((zs.map Int.toNat).sum : Int) = zs.sum := by
      clear h2 h
      induction zs with
      | nil => rfl
      | cons x l ih =>
        have h1' := h1 x (List.mem_cons_self ..)
        have := ih fun z hz => h1 z (List.mem_cons_of_mem _ hz)
        simp only [List.map_cons, List.sum_cons, Int.natCast_add, this]
        omega
    omega
/-- The configuration of the runs. -/
def pcfg (ts : List Nat) : Cfg := ⟨8, 1, 1, 0, ⟨1, 0, []⟩, ts, 1, 1, 0⟩
end Go.Lf
namespace Go.Proofs.Ytjghenomeindcaa
open Go.RowKit Go.Lf
section
variable {w w' : World}
set_option maxRecDepth 100000 in
set_option maxHeartbeats 4000000 in
theorem few_ok (w : World) (zs : List Int) (hz : zs.length = 6) (hwf : ∀ z ∈ zs, (Lit.int .i64 z).wf = true) : Calls Try.prog 7 #[.agg (zs.map (Value.int .i64)).toArray] w fun e w' => FewTo zs e ∧ Keep Nil w w' := by
  have hrow := heap_alloc_new w (.cells (zs.map (Value.int .i64)).toArray 22)
  have HROW := hid (show ∀ (k : Nat) (x : Int) (wq : World), zs[k]? = some x → Keep Nil (w.alloc (.cells (zs.map (Value.int .i64)).toArray 22)) wq → wq.cell? ⟨w.heap.size, k, none⟩ = some (.int .i64 x) from fun k x wq hx hk => by
    rw [cell_of (hk.at hrow (fun h => h))]
    simpa using six_at hx)
  have HZ := hid hz
  have HA := hid ((Keep.refl Nil w).alloc (.cells (zs.map (Value.int .i64)).toArray 22))
  clear hrow hz hwf
  go_enter Try.func7, Try.ntmps7
  go_wp2
  go_loopw [3, 4] (fun s i wz => ∃ k : Nat, k ≤ 6 ∧ i = .int .i64 (k : Int) ∧ s = .int .i64 (zs.take k).sum ∧ (∀ z ∈ zs.take k, 0 ≤ z ∧ z ≤ 40) ∧ Keep Nil (w.alloc (.cells (zs.map (Value.int .i64)).toArray 22)) wz) (fun s i _ => 6 - (intOf i).toNat)
  case atStart => exact ⟨0, by omega, rfl, rfl, fun z hz => by simp at hz, Keep.refl _ _⟩
  case round =>
    obtain ⟨k, hk, rfl, rfl, hA, hkp⟩ := hrel
    by_cases hlt : k < 6
    · obtain ⟨x, hx⟩ : ∃ x, zs[k]? = some x := ⟨_, List.getElem?_eq_getElem (by have := HZ.out; omega)⟩
      have c1 := HROW.out k x _ hx hkp
      have hs := sum_bd hA
      rw [List.length_take] at hs
      obtain ⟨S, hS⟩ : ∃ S, S = (zs.take k).sum := ⟨_, rfl⟩
      rw [← hS] at hs
      have hs1 : 0 ≤ S ∧ S ≤ 240 := by omega
      have HTK := hid (sum_take1 hx)
      rw [← hS] at HTK
      have HLL := hid hA
      have HKP := hid hkp
      have HX := hid hx
      clear hA hkp hs hx
      rw [← hS]
      clear hS
      by_cases hx0 : x < 0
      · have b0 : decide (x < 0) = true := decide_eq_true hx0
        go_wp2
        go_ret
        exact ⟨⟨false, rfl, fun h => (by cases h)⟩, HA.out.trans HKP.out (fun _ _ h => h)⟩
      · have b0 : decide (x < 0) = false := decide_eq_false hx0
        by_cases hx4 : x > 40
        · have b1 : decide (x > 40) = true := decide_eq_true hx4
          go_wp2
          go_ret
          exact ⟨⟨false, rfl, fun h => (by cases h)⟩, HA.out.trans HKP.out (fun _ _ h => h)⟩
        · have b1 : decide (x > 40) = false := decide_eq_false hx4
          go_wp2
          go_roundw
          case rel =>
            refine ⟨k + 1, by omega, by go_num, ?_, ?_, HKP.out⟩
            · rw [HTK.out]
            · intro z hz
              rw [List.take_add_one, HX.out, List.mem_append] at hz
              rcases hz with hz | hz
              · exact HLL.out z hz
              · simp only [Option.toList_some, List.mem_singleton] at hz
                subst hz
                omega
          case measure => simp [intOf]; omega
    · obtain rfl : k = 6 := by omega
      have htk : zs.take 6 = zs := List.take_of_length_le (by have := HZ.out; omega)
      rw [htk] at hA ⊢
      obtain ⟨S, hS⟩ : ∃ S, S = zs.sum := ⟨_, rfl⟩
      rw [← hS]
      go_wp2
      go_ret
      exact ⟨⟨_, rfl, fun h => ⟨hA, of_decide_eq_true h⟩⟩, HA.out.trans hkp (fun _ _ h => h)⟩
set_option maxRecDepth 100000 in
set_option maxHeartbeats 4000000 in
theorem sizeCfg : (Try.prog.info? 38).map (·.size) = some 16 := by kernel_rfl
set_option maxRecDepth 100000 in
set_option maxHeartbeats 4000000 in
theorem config_ok (w : World) (t1 t2 t3 t4 t5 t6 : Nat) : Calls Try.prog 13 #[.agg #[.int .i64 t1, .int .i64 t2, .int .i64 t3, .int .i64 t4, .int .i64 t5, .int .i64 t6]] w fun e w' => e = .returned (cfgV (pcfg [t1, t2, t3, t4, t5, t6]) t1 t2 t3 t4 t5 t6 none 0) ∧ Keep Nil w w' := by
  have HA := hid (Keep.refl Nil w)
  go_enter Try.func13, Try.ntmps13
  go_wp2
  have hh := heap_alloc_new (w.alloc (.cells #[.int .i64 t1, .int .i64 t2, .int .i64 t3, .int .i64 t4, .int .i64 t5, .int .i64 t6] 22)) (.cells #[.int .i64 8, .int .i64 1, .int .u8 1, .int .i64 0, .int .u8 1, .int .i64 0, .slice none 0 0, .int .i64 t1, .int .i64 t2, .int .i64 t3, .int .i64 t4, .int .i64 t5, .int .i64 t6, .int .i64 1, .int .i64 1, .int .i64 0] 38)
  rw [World.size_alloc] at hh
  refine bodyPost_ret (results_cell_row rfl _ _ (w.heap.size + 1) _ _ (0, 0) _ rfl hh Try.underlying38 rfl sizeCfg) rfl ⟨rfl, (HA.out.alloc _).alloc _⟩
end
end Go.Proofs.Ytjghenomeindcaa
