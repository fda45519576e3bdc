/- leapfrogkit.EqualUints and EqualAccesses: two equal lists are reported equal. -/
import Derived.Test.YtjghenomeindcaaGreatMemRead
namespace Go.Proofs.YtjghenomeindcaaGreat
open Go.RowKit Go.Lf

set_option maxHeartbeats 1000000 in
theorem eqU_yes (va vb : Value) (xs : List Int) (w : World) (h1 : Rd w 1 va xs.length (u64s xs)) (h2 : Rd w 1 vb xs.length (u64s xs)) (hm : xs.length ≤ 1000000000000) :
    Calls Tryz.prog 105 #[va, vb] w fun e w' => e = .returned (.bool true) ∧ Keep Nil w w' := by
  by_cases h0 : xs.length = 0
  · rw [h0] at h1 h2
    obtain ⟨a, c, rfl, -, -⟩ := h1
    obtain ⟨a', c', rfl, -, -⟩ := h2
    clear h0
    go_enter Tryz.func105, Tryz.ntmps105
    go_wp2
    go_rounds 1
    go_ret
    exact ⟨rfl, Keep.refl _ _⟩
  · obtain ⟨b, off, c, rfl, hc⟩ := Rd.cell h1 (by omega)
    obtain ⟨b', off', c', rfl, hc'⟩ := Rd.cell h2 (by omega)
    have HC := hid hc
    have HC' := hid hc'
    clear hc hc' h1 h2 h0
    go_enter Tryz.func105, Tryz.ntmps105
    go_wp2
    go_loopw [5] (fun i wr => ∃ k : Nat, k ≤ xs.length ∧ i = .int .i64 k ∧ Keep Nil w wr) (fun i _ => xs.length - (intOf i).toNat)
    case atStart => exact ⟨0, Nat.zero_le _, rfl, Keep.refl _ _⟩
    case round =>
      obtain ⟨k, hk, rfl, hkk⟩ := hrel
      have HKK := hid hkk
      clear hkk
      by_cases hlt : k < xs.length
      · obtain ⟨x, hx⟩ : ∃ x, xs[k]? = some x := ⟨_, List.getElem?_eq_getElem hlt⟩
        have hcx : wr.cell? ⟨b, off + k, none⟩ = some (.int .u64 x) := HKK.out.cell (HC.out k _ (u64s_at hx)) (fun h => h)
        have hcy : wr.cell? ⟨b', off' + k, none⟩ = some (.int .u64 x) := HKK.out.cell (HC'.out k _ (u64s_at hx)) (fun h => h)
        have k0 : (0 : Int) ≤ (k : Int) := by omega
        have k1 : (k : Int) < (xs.length : Int) := by omega
        clear hx
        go_wp2
        go_quiet (fail)
        go_wp2
        go_roundw
        case rel => exact ⟨k + 1, by omega, by go_num, HKK.out.drewN _⟩
        case measure => simp [intOf]; omega
      · obtain rfl : k = xs.length := by omega
        go_wp2
        go_ret
        exact ⟨rfl, HKK.out⟩

set_option maxHeartbeats 1000000 in
theorem eqA_yes (va vb : Value) (xs : List Acc) (w : World) (h1 : Rd w 6 va xs.length (logCells xs)) (h2 : Rd w 6 vb xs.length (logCells xs)) (hm : xs.length ≤ 1000000000000) :
    Calls Tryz.prog 47 #[va, vb] w fun e w' => e = .returned (.bool true) ∧ Keep Nil w w' := by
  by_cases h0 : xs.length = 0
  · rw [h0] at h1 h2
    obtain ⟨a, c, rfl, -, -⟩ := h1
    obtain ⟨a', c', rfl, -, -⟩ := h2
    clear h0
    go_enter Tryz.func47, Tryz.ntmps47
    go_wp2
    go_rounds 1
    go_ret
    exact ⟨rfl, Keep.refl _ _⟩
  · obtain ⟨b, off, c, rfl, hc⟩ := Rd.cell h1 (by omega)
    obtain ⟨b', off', c', rfl, hc'⟩ := Rd.cell h2 (by omega)
    have HC := hid hc
    have HC' := hid hc'
    clear hc hc' h1 h2 h0
    go_enter Tryz.func47, Tryz.ntmps47
    go_wp2
    go_loopw [5] (fun i wr => ∃ k : Nat, k ≤ xs.length ∧ i = .int .i64 k ∧ Keep Nil w wr) (fun i _ => xs.length - (intOf i).toNat)
    case atStart => exact ⟨0, Nat.zero_le _, rfl, Keep.refl _ _⟩
    case round =>
      obtain ⟨k, hk, rfl, hkk⟩ := hrel
      have HKK := hid hkk
      clear hkk
      by_cases hlt : k < xs.length
      · obtain ⟨x, hx⟩ : ∃ x, xs[k]? = some x := ⟨_, List.getElem?_eq_getElem hlt⟩
        have q : ∀ j u, x.cells[j]? = some u → wr.cell? ⟨b, off + k * 6 + j, none⟩ = some u := fun j u hu => by rw [Nat.add_assoc]; exact HKK.out.cell (HC.out (k * 6 + j) _ (logCells_at hx hu)) (fun h => h)
        have q' : ∀ j u, x.cells[j]? = some u → wr.cell? ⟨b', off' + k * 6 + j, none⟩ = some u := fun j u hu => by rw [Nat.add_assoc]; exact HKK.out.cell (HC'.out (k * 6 + j) _ (logCells_at hx hu)) (fun h => h)
        have c0 : wr.cell? ⟨b, off + k * 6, none⟩ = some (.int .i64 x.t) := q 0 _ rfl
        have c1 := q 1 _ rfl
        have c2 := q 2 _ rfl
        have c3 := q 3 _ rfl
        have c4 := q 4 _ rfl
        have c5 := q 5 _ rfl
        have d0 : wr.cell? ⟨b', off' + k * 6, none⟩ = some (.int .i64 x.t) := q' 0 _ rfl
        have d1 := q' 1 _ rfl
        have d2 := q' 2 _ rfl
        have d3 := q' 3 _ rfl
        have d4 := q' 4 _ rfl
        have d5 := q' 5 _ rfl
        have k0 : (0 : Int) ≤ (k : Int) := by omega
        have k1 : (k : Int) < (xs.length : Int) := by omega
        clear hx q q'
        go_wp2
        go_quiet (fail)
        go_wp2
        go_roundw
        case rel => exact ⟨k + 1, by omega, by go_num, HKK.out.drewN _⟩
        case measure => simp [intOf]; omega
      · obtain rfl : k = xs.length := by omega
        go_wp2
        go_ret
        exact ⟨rfl, HKK.out⟩
end Go.Proofs.YtjghenomeindcaaGreat
