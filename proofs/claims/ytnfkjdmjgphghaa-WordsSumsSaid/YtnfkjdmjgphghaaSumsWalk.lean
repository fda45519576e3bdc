/- WordsSums: the walk. -/
import Derived.Test.YtnfkjdmjgphghaaMemRead
namespace Go.Proofs.Ytnfkjdmjgphghaa
open Go.RowKit Go.Lf

def U64 (x : Int) : Prop := 0 ≤ x ∧ x < 18446744073709551616
theorem U64.wrap (x : Int) : U64 (IntKind.u64.wrap x) := by rw [IntKind.wrap_u64]; exact ⟨by omega, by omega⟩
theorem U64.of_wf {x : Int} (h : (Lit.int .u64 x).wf = true) : U64 x := by
  simp [Lit.wf, IntKind.min, IntKind.max, IntKind.signed, IntKind.bits] at h
  exact ⟨by omega, by omega⟩
theorem U64.succ_ne {x : Int} (h : U64 x) : x ≠ IntKind.u64.wrap (x + 1) := by
  rw [IntKind.wrap_u64]; obtain ⟨h0, h1⟩ := h; omega

/-- What holds at each round's head. -/
def SumsInv (w : World) (b : Nat) (k : Nat) (s : Int) (wr : World) : Prop :=
  ∃ F log, MemAt wr b F [s] log ∧ U64 s ∧ log.length = 3 * k ∧ Own w F wr

set_option maxRecDepth 100000 in
set_option maxHeartbeats 1000000 in
theorem sums_ok (v0 : Int) (hv0 : U64 v0) (va : Value) (zs : List Int) (w : World) (hrd : Rd w 1 va zs.length (u64s zs)) (hz : zs.length ≤ 200) :
    Calls Try.prog 5 #[.int .u64 v0, va] w fun e w' => e = .returned (.bool true) ∧ Keep Nil w w' := by
  obtain ⟨a, c, rfl, -, -⟩ := id hrd
  have HRD := hid hrd
  have HV := hid hv0
  clear hrd hv0
  go_enter Try.func5, Try.ntmps5
  go_wp2_with (go_at_call 11; refine (new_ok _ [v0] _ (rd_new _ _ _ _ 1 _ ⟨rfl, rfl⟩) (by simp) (by simp)).mono ?_; rintro e w2 ⟨b, F, rfl, hm, k2, f2⟩)
  have hinv : SumsInv w b 0 v0 w2 := ⟨F, [], hm, HV.out, rfl, Own.fresh (Keep.alloc (Keep.refl _ _) _) k2 f2⟩
  have HI := hid hinv
  clear hm k2 f2 hinv
  go_wp2
  go_loopw [7, 8] (fun s i wr => ∃ (k : Nat) (x : Int), k ≤ zs.length ∧ i = .int .i64 k ∧ s = .int .u64 x ∧ SumsInv w b k x wr) (fun _ i _ => zs.length - (intOf i).toNat)
  case atStart => exact ⟨0, _, Nat.zero_le _, rfl, rfl, HI.out⟩
  case round =>
    obtain ⟨k, s, hk, rfl, rfl, F, log, hm, hs, hl, ho⟩ := hrel
    have HM := hid hm
    have HO := hid ho
    have HL := hid hl
    have HS := hid hs
    have hle : log.length ≤ 600 := by omega
    clear hm ho hl hs HI
    by_cases hlt : k < zs.length
    · obtain ⟨x, hx⟩ : ∃ x, zs[k]? = some x := ⟨_, List.getElem?_eq_getElem hlt⟩
      obtain ⟨ab, off, cc, hve, hc⟩ := Rd.cell HRD.out (by omega)
      simp only [Value.slice.injEq] at hve
      obtain ⟨rfl, -, rfl⟩ := hve
      have hcw : w.cell? ⟨ab, off + k, none⟩ = some (.int .u64 x) := hc k _ (u64s_at hx)
      have hcx : wr.cell? ⟨ab, off + k, none⟩ = some (.int .u64 x) := HO.out.1.cell hcw (fun h => h)
      have HC := hid hcw
      clear hx hc hcw
      go_wp2_with fail
      refine (add_ok HM.out _ _ s _ (by omega) (by omega) (by omega) rfl HS.out.1 HS.out.2 (by omega)).mono ?_
      rintro e w1 ⟨rfl, F1, hm1, k1, f1⟩
      have HM1 := hid hm1
      have HO1 := hid (HO.out.step k1 f1)
      have hcx1 := HO1.out.1.cell HC.out (fun h => h)
      clear hm1 k1 f1 hcx
      go_wp2_with fail
      have hu : U64 (IntKind.u64.wrap (s + x)) := U64.wrap _
      obtain ⟨y, hy⟩ : ∃ y, y = IntKind.u64.wrap (s + x) := ⟨_, rfl⟩
      refine (cas_no HM1.out _ _ (IntKind.u64.wrap (s + x)) _ _ (by omega) (by omega) (by omega) rfl (U64.succ_ne hu) (by simp; omega)).mono ?_
      rintro e w2 ⟨rfl, F2, hm2, k2, f2⟩
      have HM2 := hid hm2
      have HO2 := hid (HO1.out.step k2 f2)
      clear hm2 k2 f2 hcx1 hu hy
      go_wp2_with fail
      refine (load_ok HM2.out _ _ (IntKind.u64.wrap (s + x)) (by omega) (by omega) (by omega) rfl (by simp; omega)).mono ?_
      rintro e w3 ⟨rfl, F3, hm3, k3, f3⟩
      have HM3 := hid hm3
      have HO3 := hid (HO2.out.step k3 f3)
      clear hm3 k3 f3
      go_wp2
      go_roundw
      case rel => exact ⟨k + 1, _, by omega, by go_num, rfl, F3, _, HM3.out, U64.wrap _, by simp [HL.out]; omega, HO3.out⟩
      case measure => simp [intOf]; omega
    · obtain rfl : k = zs.length := by omega
      have hlen : ((log.length : Int) == 3 * (zs.length : Int)) = true := by have := HL.out; simp; omega
      clear HL hle
      go_wp2_with (first | (go_at_call 21; refine (peek_ok HM.out _ s (by omega) rfl).mono ?_; rintro e w' ⟨rfl, rfl⟩) | (go_at_call 22; refine (len_ok HM.out).mono ?_; rintro e w' ⟨rfl, rfl⟩))
      go_ret
      exact ⟨rfl, HO.out.1⟩

set_option maxHeartbeats 400000 in
theorem sums_long (v0 : Int) (va : Value) (n : Nat) (a : Option Addr) (c : Nat) (w : World) (hva : va = .slice a n c) (hz : 200 < n) (hm : n ≤ maxLen) :
    Calls Try.prog 5 #[.int .u64 v0, va] w fun e w' => e = .returned (.bool true) ∧ Keep Nil w w' := by
  subst hva
  unfold maxLen at hm
  go_enter Try.func5, Try.ntmps5
  go_wp2
  go_ret
  exact ⟨rfl, Keep.refl _ _⟩

theorem walk_sums (w : World) (v0 : Int) (h0 : (Lit.int .u64 v0).wf = true) (va : Value) (zs : List Int) (hrd : Rd w 1 va zs.length (u64s zs)) (_hb : ∀ n ∈ zs, (Lit.int .u64 n).wf = true) (hm : zs.length ≤ maxLen) :
    Calls Try.prog 5 #[.int .u64 v0, va] w fun e w' => e = .returned (.bool true) ∧ Keep Nil w w' := by
  by_cases hz : zs.length ≤ 200
  · exact sums_ok v0 (U64.of_wf h0) va zs w hrd hz
  · obtain ⟨a, c, rfl, -, -⟩ := hrd
    exact sums_long v0 _ zs.length a c w rfl (by omega) hm
end Go.Proofs.Ytnfkjdmjgphghaa
