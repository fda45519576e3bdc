/- WordsSizes: the walk. -/
import Derived.Test.YtnfkjdmjgphghaaRefNew
namespace Go.Proofs.Ytnfkjdmjgphghaa
open Go.RowKit Go.Lf

set_option maxHeartbeats 400000 in
theorem boolean_yes (w : World) : Calls Try.prog 14 #[.bool true] w fun e w' => e = .returned (.int .i64 1) ∧ w = w' := by
  go_enter Try.func14, Try.ntmps14
  go_wp2
  go_ret
  exact ⟨rfl, rfl⟩
set_option maxHeartbeats 400000 in
theorem boolean_no (w : World) : Calls Try.prog 14 #[.bool false] w fun e w' => e = .returned (.int .i64 0) ∧ w = w' := by
  go_enter Try.func14, Try.ntmps14
  go_wp2
  go_ret
  exact ⟨rfl, rfl⟩

theorem zeros_rd {w : World} {g n : Nat} (h : w.heap[g]? = some (.cells (madeCells #[.int .u64 0] n) 39 (0, 0))) : Rd w 1 (.slice (some ⟨g, 0, none⟩) n n) (List.replicate n (0 : Int)).length (u64s (List.replicate n 0)) := by
  rw [made_one] at h
  have h2 : u64s (List.replicate n 0) = List.replicate n (.int .u64 0) := by simp [u64s]
  rw [h2]
  simpa using rd_of_heap (size := 1) (n := n) h (by simp)

set_option maxHeartbeats 1000000 in
theorem sizes_out (n : Int) (w : World) (h : n < 0 ∨ 65539 < n) :
    Calls Try.prog 3 #[.int .i64 n] w fun e w' => e = .returned (.bool true) ∧ Keep Nil w w' := by
  rcases h with h | h
  · go_enter Try.func3, Try.ntmps3
    go_wp2
    go_ret
    exact ⟨rfl, Keep.refl _ _⟩
  · have h2 : ¬ n < 0 := by omega
    go_enter Try.func3, Try.ntmps3
    go_wp2
    go_ret
    exact ⟨rfl, Keep.refl _ _⟩

set_option maxHeartbeats 1000000 in
theorem sizes_bad (n : Nat) (w : World) (h : n = 0 ∨ 65536 < n) (h1 : n ≤ 65539) :
    Calls Try.prog 3 #[.int .i64 n] w fun e w' => e = .returned (.bool true) ∧ Keep Nil w w' := by
  have hm : n ≤ maxLen := by unfold maxLen; omega
  have hne : (szErr n == 0) = false := by
    rcases h with rfl | h
    · rfl
    · rw [szErr_big (by omega)]; rfl
  have hne' : (szErr n != 0) = true := by simpa using hne
  have HN := hid h
  clear h
  go_enter Try.func3, Try.ntmps3
  go_wp2_with (first | (at_make; refine wpList_mk _ rfl _ _ 22 rfl 39 _ 1 8 Try.underlying22 infoU64 _ _ (n : Int) rfl rfl ?p0 ?p1 ?p2 ?_) | go_at_call 0)
  case p0 => omega
  case p1 => omega
  case p2 => omega
  intro w1 hh hk hz
  have HK := hid hk
  clear hh hk hz
  go_wp2_with (first | (go_at_call 11; refine (new_err _ _ _ _ HN.out hm).mono ?_; rintro e w' ⟨rfl, rfl⟩) | (go_at_call 12; refine (rnew_err _ _ _ _ HN.out hm).mono ?_; rintro e w' ⟨rfl, rfl⟩) | (go_at_call 13; refine (words_nil _).mono ?_; rintro e w' ⟨rfl, rfl⟩) | (go_at_call 14; refine (boolean_no _).mono ?_; rintro e w' ⟨rfl, rfl⟩))
  go_ret
  exact ⟨rfl, HK.out⟩

set_option maxHeartbeats 1000000 in
theorem sizes_good (n : Nat) (w : World) (h0 : 0 < n) (h1 : n ≤ 65536) :
    Calls Try.prog 3 #[.int .i64 n] w fun e w' => e = .returned (.bool true) ∧ Keep Nil w w' := by
  go_enter Try.func3, Try.ntmps3
  go_wp2_with (first | (at_make; refine wpList_mk _ rfl _ _ 22 rfl 39 _ 1 8 Try.underlying22 infoU64 _ _ (n : Int) rfl rfl ?p0 ?p1 ?p2 ?_) | go_at_call 0)
  case p0 => omega
  case p1 => omega
  case p2 => omega
  intro w1 hh hk hz
  have hrd := zeros_rd hh
  have HK := hid hk
  have HZ := hid hz
  have HRD := hid hrd
  clear hh hk hz hrd
  go_wp2_with (go_at_call 11; refine (new_ok _ _ _ HRD.out (by simpa using h0) (by simpa using h1)).mono ?_; rintro e w2 ⟨b, F, rfl, hm, k2, f2⟩)
  go_wp2_with fail
  refine (rnew_ok _ _ _ (rd_keep HRD.out k2 (fun _ _ h => h)) (by simpa using h0) (by simpa using h1)).mono ?_
  rintro e w3 ⟨b', F', rfl, hr, k3, f3⟩
  have hm3 := hm.keep k3 (fun _ _ h => h)
  have HM := hid hm3
  clear hm hm3 hr f3 f2
  go_wp2_with (first | (go_at_call 13; refine (words_ok HM.out (by simp; omega)).mono ?_; rintro e w4 ⟨g, rfl, h4, _, k4⟩; simp only [List.length_replicate]) | (go_at_call 14; refine (boolean_yes _).mono ?_; rintro e w' ⟨rfl, rfl⟩))
  go_ret
  exact ⟨rfl, ((HK.out.trans k2 (fun _ _ h => h)).trans k3 (fun _ _ h => h)).trans k4 (fun _ _ h => h)⟩

theorem sizes_any (n : Int) (w : World) :
    Calls Try.prog 3 #[.int .i64 n] w fun e w' => e = .returned (.bool true) ∧ Keep Nil w w' := by
  by_cases h : n < 0 ∨ 65539 < n
  · exact sizes_out n w h
  · obtain ⟨k, rfl⟩ := Int.eq_ofNat_of_zero_le (show 0 ≤ n by omega)
    by_cases h' : k = 0 ∨ 65536 < k
    · exact sizes_bad k w h' (by omega)
    · exact sizes_good k w (by omega) (by omega)

theorem walk_sizes (n : Int) (_h : (Lit.int .i64 n).wf = true) (w : World) : Calls Try.prog 3 #[.int .i64 n] w fun e w' => e = .returned (.bool true) ∧ Keep Nil w w' := sizes_any n w
end Go.Proofs.Ytnfkjdmjgphghaa
