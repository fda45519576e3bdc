/- leapfrogkit.EqualInts. -/
import Derived.Test.YtjghenomeindcaaMem
namespace Go.Proofs.Ytjghenomeindcaa
open Go.RowKit Go.Lf
theorem i64_at {xs : List Int} {k : Nat} {x : Int} (h : xs[k]? = some x) : (xs.map (Value.int .i64))[k]? = some (.int .i64 x) := by simp [h]
set_option maxHeartbeats 1000000 in
theorem eqInts_yes (va vb : Value) (xs : List Int) (w : World) (h1 : Rd w 1 va xs.length (xs.map (Value.int .i64))) (h2 : Rd w 1 vb xs.length (xs.map (Value.int .i64))) (hm : xs.length ≤ 1000000000000) :
    Calls Try.prog 22 #[va, vb] w fun e w' => e = .returned (.bool true) ∧ Keep Nil w w' := by
  by_cases h0 : xs.length = 0
  · rw [h0] at h1 h2
    obtain ⟨a, c, rfl, -, -⟩ := h1
    obtain ⟨a', c', rfl, -, -⟩ := h2
    clear h0
    go_enter Try.func22, Try.ntmps22
    go_wp2
    go_rounds 1
    go_ret
    exact ⟨rfl, Keep.refl _ _⟩
  · obtain ⟨b, off, c, rfl, hc⟩ := Rd.cell h1 (by omega)
    obtain ⟨b', off', c', rfl, hc'⟩ := Rd.cell h2 (by omega)
    have HC := hid hc
    have HC' := hid hc'
    clear hc hc' h1 h2 h0
    go_enter Try.func22, Try.ntmps22
    go_wp2
    go_loopw [5] (fun i wr => ∃ k : Nat, k ≤ xs.length ∧ i = .int .i64 k ∧ Keep Nil w wr) (fun i _ => xs.length - (intOf i).toNat)
    case atStart => exact ⟨0, Nat.zero_le _, rfl, Keep.refl _ _⟩
    case round =>
      obtain ⟨k, hk, rfl, hkk⟩ := hrel
      have HKK := hid hkk
      clear hkk
      by_cases hlt : k < xs.length
      · obtain ⟨x, hx⟩ : ∃ x, xs[k]? = some x := ⟨_, List.getElem?_eq_getElem hlt⟩
        have hcx : wr.cell? ⟨b, off + k, none⟩ = some (.int .i64 x) := HKK.out.cell (HC.out k _ (i64_at hx)) (fun h => h)
        have hcy : wr.cell? ⟨b', off' + k, none⟩ = some (.int .i64 x) := HKK.out.cell (HC'.out k _ (i64_at hx)) (fun h => h)
        have k0 : (0 : Int) ≤ (k : Int) := by omega
        have k1 : (k : Int) < (xs.length : Int) := by omega
        clear hx
        go_wp2
        go_quiet (fail)
        go_wp2
        go_roundw
        case rel => exact ⟨k + 1, by omega, by go_num, HKK.out.drewN _⟩
        case measure => simp [intOf]; omega
      · obtain rfl : k = xs.length := by omega
        go_wp2
        go_ret
        exact ⟨rfl, HKK.out⟩

end Go.Proofs.Ytjghenomeindcaa
