/- leapfrogref03: Same, Set: contracts. -/
import Derived.Test.YtfpobagkananeaaBkt
import Derived.Test.YtfpobagkananeaaDomSet
set_option linter.unusedVariables false
set_option linter.unusedSimpArgs false
namespace Go.Proofs.Ytfpobagkananeaa
open Go.RowKit Go.Lf
section
variable {w : World}
/-! Same. -/
set_option maxHeartbeats 1000000 in
theorem same_yes (va vb : Value) (xs : List Int) (w : World) (h1 : Rd w 1 va xs.length (i64s xs)) (h2 : Rd w 1 vb xs.length (i64s xs)) (hm : xs.length ≤ 1000000000000) :
    Calls Try.prog 33 #[va, vb] w fun e w' => e = .returned (.bool true) ∧ Keep Nil w w' := by
  by_cases h0 : xs.length = 0
  · rw [h0] at h1 h2
    obtain ⟨a, c, rfl, -, -⟩ := h1
    obtain ⟨a', c', rfl, -, -⟩ := h2
    clear h0
    go_enter Try.func33, Try.ntmps33
    go_wp2
    go_rounds 1
    go_ret
    exact ⟨rfl, Keep.refl _ _⟩
  · obtain ⟨b, off, c, rfl, hc⟩ := Rd.cell h1 (by omega)
    obtain ⟨b', off', c', rfl, hc'⟩ := Rd.cell h2 (by omega)
    have HC := hid hc
    have HC' := hid hc'
    clear hc hc' h1 h2 h0
    go_enter Try.func33, Try.ntmps33
    go_wp2
    go_loopw [5] (fun i wr => ∃ k : Nat, k ≤ xs.length ∧ i = .int .i64 k ∧ Keep Nil w wr) (fun i _ => xs.length - (intOf i).toNat)
    case atStart => exact ⟨0, Nat.zero_le _, rfl, Keep.refl _ _⟩
    case round =>
      obtain ⟨k, hk, rfl, hkk⟩ := hrel
      have HKK := hid hkk
      clear hkk
      by_cases hlt : k < xs.length
      · obtain ⟨x, hx⟩ : ∃ x, xs[k]? = some x := ⟨_, List.getElem?_eq_getElem hlt⟩
        have hcx : wr.cell? ⟨b, off + k, none⟩ = some (.int .i64 x) := HKK.out.cell (HC.out k _ (i64s_at hx)) (fun h => h)
        have hcy : wr.cell? ⟨b', off' + k, none⟩ = some (.int .i64 x) := HKK.out.cell (HC'.out k _ (i64s_at hx)) (fun h => h)
        have k0 : (0 : Int) ≤ (k : Int) := by omega
        have k1 : (k : Int) < (xs.length : Int) := by omega
        clear hx
        go_wp2
        go_quiet (fail)
        go_wp2
        go_roundw
        case rel => exact ⟨k + 1, by omega, by go_num, HKK.out.drewN _⟩
        case measure => simp [intOf]; omega
      · obtain rfl : k = xs.length := by omega
        go_wp2
        go_ret
        exact ⟨rfl, HKK.out⟩

/-! The reference's Set. -/
set_option maxHeartbeats 2000000 in
theorem rset_ok {a : Option Addr} {c : Nat} (l : List Int) (hrd : Rd w 1 (.slice a l.length c) l.length (i64s l)) (hm : l.length ≤ maxLen) (hr : InR l) :
    Calls Try.prog 30 #[.slice a l.length c] w fun e w' => e = .returned (.tuple #[.int .u64 (setN l), .int .i64 0]) ∧ Keep Nil w w' := by
  unfold maxLen at hm
  have HR := hid hr
  have HD := hid hrd
  clear hr hrd
  go_enter Try.func30, Try.ntmps30
  go_wp2
  go_loopw [4, 5] (fun s i wr => ∃ k : Nat, k ≤ l.length ∧ i = .int .i64 k ∧ s = .int .u64 (setTo l k : Nat) ∧ Keep Nil w wr) (fun _ i _ => l.length - (intOf i).toNat)
  case atStart => exact ⟨0, Nat.zero_le _, rfl, by simp [setTo, setN], Keep.refl _ _⟩
  case round =>
    obtain ⟨k, hk, rfl, rfl, hkw⟩ := hrel
    have KW := hid hkw
    clear hkw
    by_cases hlt : k < l.length
    · obtain ⟨b, off, rfl, hc⟩ := rd_int (rd_keep HD.out KW.out (fun _ _ h => h)) hlt
      obtain ⟨x, hx⟩ : ∃ x, l[k]? = some x := ⟨_, List.getElem?_eq_getElem hlt⟩
      obtain ⟨x0, x1⟩ := HR.out x (List.mem_of_getElem? hx)
      obtain ⟨u, rfl⟩ := Int.eq_ofNat_of_zero_le x0
      have hck := hc k _ hx
      have hsl : setTo l k < 18446744073709551616 := setTo_lt (fun j v _ hj => HR.out v (List.mem_of_getElem? hj))
      have hb := fun (w : World) => @bit_any w u (by omega)
      obtain ⟨p, hp⟩ : ∃ p : Int, p = ((2 ^ u : Nat) : Int) := ⟨_, rfl⟩
      have so := hid (show Go.bits .or .u64 ((setTo l k : Nat) : Int) p = ((setTo l k ||| 2 ^ u : Nat) : Int) by rw [hp]; exact or_pow hsl (show u < 64 by omega))
      simp only [← hp] at hb
      have HB := hid hb
      have nx := hid (setTo_succ hx)
      have d1 : decide ((u : Int) < 0) = false := decide_eq_false (by omega)
      have d2 : decide (64 ≤ (u : Int)) = false := decide_eq_false (by omega)
      have k0 : (0 : Int) ≤ (k : Int) := by omega
      have k1 : (k : Int) < (l.length : Int) := by omega
      clear hc hx hb hp
      generalize setTo l k = z at *
      go_wp2_with fail
      refine (HB.out _).mono ?_
      rintro e w' ⟨rfl, rfl⟩
      go_wp2
      go_roundw
      case rel => exact ⟨k + 1, by omega, by go_num, by rw [nx.out, Int.toNat_natCast, ← so.out], KW.out⟩
      case measure => simp [intOf]; omega
    · obtain rfl : k = l.length := by omega
      rw [setTo_all]
      go_wp2
      go_ret2
      exact ⟨rfl, KW.out⟩
set_option maxHeartbeats 2000000 in
theorem rset_bad {a : Option Addr} {c : Nat} (l : List Int) (hrd : Rd w 1 (.slice a l.length c) l.length (i64s l)) (hm : l.length ≤ maxLen) (hr : ¬ InR l) :
    Calls Try.prog 30 #[.slice a l.length c] w fun e w' => e = .returned (.tuple #[.int .u64 0, .int .i64 3]) ∧ Keep Nil w w' := by
  unfold maxLen at hm
  have HR := hid hr
  have HD := hid hrd
  clear hr hrd
  go_enter Try.func30, Try.ntmps30
  go_wp2
  go_loopw [4, 5] (fun s i wr => ∃ k : Nat, k ≤ l.length ∧ i = .int .i64 k ∧ s = .int .u64 (setTo l k : Nat) ∧ Hid (∀ j v, j < k → l[j]? = some v → 0 ≤ v ∧ v < 64) ∧ Keep Nil w wr) (fun _ i _ => l.length - (intOf i).toNat)
  case atStart => exact ⟨0, Nat.zero_le _, rfl, by simp [setTo, setN], hid (fun j v h => absurd h (by omega)), Keep.refl _ _⟩
  case round =>
    obtain ⟨k, hk, rfl, rfl, HI, hkw⟩ := hrel
    have KW := hid hkw
    clear hkw
    by_cases hlt : k < l.length
    · obtain ⟨b, off, rfl, hc⟩ := rd_int (rd_keep HD.out KW.out (fun _ _ h => h)) hlt
      obtain ⟨x, hx⟩ : ∃ x, l[k]? = some x := ⟨_, List.getElem?_eq_getElem hlt⟩
      have hck := hc k _ hx
      have hsl : setTo l k < 18446744073709551616 := setTo_lt HI.out
      have HX := hid hx
      have k0 : (0 : Int) ≤ (k : Int) := by omega
      have k1 : (k : Int) < (l.length : Int) := by omega
      clear hc hx
      by_cases h0 : x < 0
      · have d1 : decide (x < 0) = true := decide_eq_true h0
        clear h0
        go_wp2
        go_ret2
        exact ⟨rfl, KW.out⟩
      · have d1 : decide (x < 0) = false := decide_eq_false h0
        by_cases h1 : 64 ≤ x
        · have d2 : decide (64 ≤ x) = true := decide_eq_true h1
          clear h0 h1
          go_wp2
          go_ret2
          exact ⟨rfl, KW.out⟩
        · obtain ⟨u, rfl⟩ := Int.eq_ofNat_of_zero_le (show 0 ≤ x by omega)
          have hb := fun (w : World) => @bit_any w u (by omega)
          obtain ⟨p, hp⟩ : ∃ p : Int, p = ((2 ^ u : Nat) : Int) := ⟨_, rfl⟩
          have so := hid (show Go.bits .or .u64 ((setTo l k : Nat) : Int) p = ((setTo l k ||| 2 ^ u : Nat) : Int) by rw [hp]; exact or_pow hsl (show u < 64 by omega))
          simp only [← hp] at hb
          have HB := hid hb
          have nx := hid (setTo_succ HX.out)
          have d2 : decide (64 ≤ (u : Int)) = false := decide_eq_false h1
          have hu : u < 64 := by omega
          clear h0 h1 hb hp
          generalize setTo l k = z at *
          go_wp2_with fail
          refine (HB.out _).mono ?_
          rintro e w' ⟨rfl, rfl⟩
          go_wp2
          go_roundw
          case rel => exact ⟨k + 1, by omega, by go_num, by rw [nx.out, Int.toNat_natCast, ← so.out], hid (fun j v hj hv => by
            rcases Nat.lt_or_ge j k with h | h
            · exact HI.out j v h hv
            · obtain rfl : j = k := by omega
              rw [HX.out] at hv
              obtain rfl := Option.some.inj hv
              omega), KW.out⟩
          case measure => simp [intOf]; omega
    · obtain rfl : k = l.length := by omega
      exfalso
      apply HR.out
      intro v hv
      obtain ⟨j, hj⟩ := List.getElem?_of_mem hv
      exact HI.out j v (lt_of_at hj) hj
end
end Go.Proofs.Ytfpobagkananeaa
