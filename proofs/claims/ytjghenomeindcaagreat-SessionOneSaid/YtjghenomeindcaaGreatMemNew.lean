/- words.New, Words and Log: contracts. -/
import Derived.Test.YtjghenomeindcaaGreatMemOps
namespace Go.Proofs.YtjghenomeindcaaGreat
open Go.RowKit Go.Lf

theorem infoU64 : (Tryz.prog.info? 54).map (fun i => (i.zero, i.size, i.bytes)) = some (some (.int .u64 0), 1, 8) := by kernel_rfl
theorem infoAtomic : (Tryz.prog.info? 158).map (fun i => (i.zero, i.size, i.bytes)) = some (some (.agg #[.int .u64 0]), 1, 8) := by kernel_rfl

/-- A new object with the number E: nothing that was there has turned. -/
def MNewTo (w : World) (ws : List Int) (e : Ending) (w' : World) : Prop :=
  ∃ b F, e = .returned (.tuple #[.pointer (some ⟨b, 0, none⟩), .int .i64 0]) ∧ MemAt w' b F ws [] ∧ Keep Nil w w' ∧ Foot w Nil F

theorem ret_num {k : IntKind} {a b : Int} (h : a = b) : Ending.returned (.int k a) = .returned (.int k b) := by rw [h]

set_option maxHeartbeats 400000 in
theorem size_any (n : Int) (w : World) :
    Calls Tryz.prog 76 #[.int .i64 n] w fun e w' => e = .returned (.int .i64 (szErr n)) ∧ w = w' := by
  go_enter Tryz.func76, Tryz.ntmps76
  go_wp2
  all_goals go_ret
  · exact ⟨ret_num (szErr_zero (by simp_all)).symm, rfl⟩
  · exact ⟨ret_num (szErr_big (by assumption)).symm, rfl⟩
  · have hne : ¬ n = 0 := by simp_all
    by_cases hp : 0 < n
    · exact ⟨ret_num (szErr_ok hp (by assumption)).symm, rfl⟩
    · exact ⟨ret_num (by unfold szErr; rw [if_neg hne, if_neg (by omega)]), rfl⟩

set_option maxHeartbeats 400000 in
theorem new_err (a : Option Addr) (n c : Nat) (w : World) (hn : n = 0 ∨ 65536 < n) (hm : n ≤ maxLen) :
    Calls Tryz.prog 29 #[.slice a n c] w fun e w' => e = .returned (.tuple #[.pointer none, .int .i64 (szErr n)]) ∧ w = w' := by
  unfold maxLen at hm
  have hne : (szErr n != 0) = true := by
    rcases hn with rfl | hn
    · rfl
    · rw [szErr_big (by omega)]; rfl
  clear hn
  go_enter Tryz.func29, Tryz.ntmps29
  go_wp2_with (go_at_call 76; refine (size_any _ _).mono ?_; rintro e w' ⟨rfl, rfl⟩)
  go_ret2
  exact ⟨rfl, rfl⟩

set_option maxHeartbeats 1000000 in
theorem new_ok (v : Value) (ws : List Int) (w : World) (hrd : Rd w 1 v ws.length (u64s ws)) (h0 : 0 < ws.length) (h1 : ws.length ≤ 65536) :
    Calls Tryz.prog 29 #[v] w (MNewTo w ws) := by
  obtain ⟨b, off, c, rfl, hc⟩ := Rd.cell hrd h0
  have hs : Calls Tryz.prog 76 #[.int .i64 (ws.length : Int)] w fun e w' => e = .returned (.int .i64 0) ∧ w = w' := by
    have h1 : szErr (ws.length : Int) = 0 := szErr_ok (by omega) (by omega)
    rw [← h1]; exact size_any _ _
  have HS := hid hs
  have HC := hid hc
  clear hs hc
  go_enter Tryz.func29, Tryz.ntmps29
  go_wp2_with (first | (go_at_call 76; refine HS.out.mono ?_; rintro e w' ⟨rfl, rfl⟩) | (at_make; refine wpList_mk _ rfl _ _ 159 rfl 158 _ 1 8 Tryz.underlying159 infoAtomic _ _ (ws.length : Int) rfl rfl ?p0 ?p1 ?p2 ?_))
  case p0 => omega
  case p1 => omega
  case p2 => omega
  intro w1 hh hk hz
  have HH := hid hh
  have HK := hid hk
  have HZ := hid hz
  clear hh hk hz
  have hrow : w1.heap[w.heap.size]? = some (.cells (u64s (filled ws 0)).toArray 158 (0, 0)) := by
    rw [HH.out, made_one, filled_zero]; simp [u64s]
  have HROW := hid hrow
  clear hrow
  go_wp2
  go_loopw [21] (fun i wr => ∃ k : Nat, k ≤ ws.length ∧ i = .int .i64 k ∧ wr.heap[w.heap.size]? = some (.cells (u64s (filled ws k)).toArray 158 (0, 0)) ∧
      wr.heap[w1.heap.size]? = some (.cells #[.slice (some ⟨w.heap.size, 0, none⟩) ws.length ws.length, .slice none 0 0] 161 (0, 0)) ∧ Keep Nil w wr) (fun i _ => ws.length - (intOf i).toNat)
  case atStart => exact ⟨0, Nat.zero_le _, rfl, alloc_old HROW.out _, heap_alloc_new _ _, HK.out.alloc _⟩
  case round =>
    obtain ⟨k, hk, rfl, hr, hm, hkk⟩ := hrel
    have hcm : wr.cell? ⟨w1.heap.size, 0, none⟩ = some (.slice (some ⟨w.heap.size, 0, none⟩) ws.length ws.length) := by rw [cell_of hm]; rfl
    have HR := hid hr
    have HM := hid hm
    have HKK := hid hkk
    clear hr hm hkk
    by_cases hlt : k < ws.length
    · obtain ⟨x, hx⟩ : ∃ x, ws[k]? = some x := ⟨_, List.getElem?_eq_getElem hlt⟩
      have hcx : wr.cell? ⟨b, off + k, none⟩ = some (.int .u64 x) := HKK.out.cell (HC.out k _ (u64s_at hx)) (fun h => h)
      have hcz : wr.cell? ⟨w.heap.size, k, none⟩ = some (.int .u64 0) := by rw [cell_of HR.out]; simpa using u64s_at (filled_at ws k hlt)
      have hfz : wr.frozen? ⟨w.heap.size, k, none⟩ = false := free_of HR.out k
      have HX := hid hx
      clear hx
      go_wp2_with (go_at_call 77; refine (astore_any _ _ _ _ _ hcz hfz).mono ?_; rintro e w' ⟨rfl, rfl⟩)
      go_roundw
      case rel =>
        refine ⟨k + 1, by omega, by go_num, ?_, ?_, ?_⟩
        · rw [set_same HR.out, ← filled_set ws k x HX.out, ← u64s_set]; simp
        · exact set_other HM.out (by simp; have := HZ.out; omega) _
        · exact Keep.setCell HKK.out (.inr (Nat.le_refl _)) _
      case measure => simp [intOf]; omega
    · obtain rfl : k = ws.length := by omega
      go_wp2
      go_ret2
      rw [filled_all] at HR
      refine ⟨w1.heap.size, fun j => j = w1.heap.size ∨ j = w.heap.size, rfl, ⟨w.heap.size, none, 0, ⟨HM.out, HR.out, World.ownsRow_nil _ _ _ _, by have := HZ.out; omega, by simp [Value.ownBlock], by simp [Value.ownBlock]⟩, fun j => by simp [Value.ownBlock]⟩, HKK.out, fun j hj => .inr ?_⟩
      have := HZ.out
      rcases hj with rfl | rfl <;> omega
end Go.Proofs.YtjghenomeindcaaGreat
