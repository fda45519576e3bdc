/- WordsReplays: the walk. -/
import Derived.Test.YtnfkjdmjgphghaaRefReplay
namespace Go.Proofs.Ytnfkjdmjgphghaa
open Go.RowKit Go.Lf

/-- Replay refuses no words and too many words. -/
theorem replay_err (a : Option Addr) (n c : Nat) (vb : Value) (w : World) (hn : n = 0 ∨ 65536 < n) (hm : n ≤ maxLen) :
    Calls Try.prog 15 #[.slice a n c, vb] w fun e w' => e = .returned (.tuple #[.slice none 0 0, .int .i64 0, .int .i64 (szErr n)]) ∧ w = w' := by
  have hne : (szErr n != 0) = true := by
    rcases hn with rfl | hn
    · rfl
    · rw [szErr_big (by omega)]; rfl
  have HN := hid hn
  clear hn
  go_enter Try.func15, Try.ntmps15
  go_wp2_with (go_at_call 11; refine (new_err _ _ _ _ HN.out hm).mono ?_; rintro e w2 ⟨rfl, rfl⟩)
  go_ret3
  exact ⟨rfl, rfl⟩
theorem rreplay_err (a : Option Addr) (n c : Nat) (vb : Value) (w : World) (hn : n = 0 ∨ 65536 < n) (hm : n ≤ maxLen) :
    Calls Try.prog 16 #[.slice a n c, vb] w fun e w' => e = .returned (.tuple #[.slice none 0 0, .int .i64 0, .int .i64 (szErr n)]) ∧ w = w' := by
  have hne : (szErr n != 0) = true := by
    rcases hn with rfl | hn
    · rfl
    · rw [szErr_big (by omega)]; rfl
  have HN := hid hn
  clear hn
  go_enter Try.func16, Try.ntmps16
  go_wp2_with (go_at_call 12; refine (rnew_err _ _ _ _ HN.out hm).mono ?_; rintro e w2 ⟨rfl, rfl⟩)
  go_ret3
  exact ⟨rfl, rfl⟩

theorem rd_nil (w : World) (size : Nat) : Rd w size (.slice none 0 0) 0 [] := ⟨none, 0, rfl, by simp, .inl ⟨rfl, rfl, rfl⟩⟩
theorem empty_row (w : World) (e : TypeId) (size : Nat) : (w.alloc (.cells #[] e)).ownsRow 0 e size (.slice (some ⟨w.heap.size, 0, none⟩) 0 0) 0 [] :=
  ⟨by simp, .inr ⟨_, 0, #[], rfl, Nat.zero_le _, heap_alloc_new w _, Nat.le_refl _, Nat.zero_le _, by simp, by simp⟩⟩

set_option maxRecDepth 100000 in
set_option maxHeartbeats 2000000 in
theorem replays_ok (va vb : Value) (ws : List Int) (l : List Acc) (w : World) (h1 : Rd w 1 va ws.length (u64s ws)) (h2 : Rd w 6 vb l.length (logCells l)) (hm : ws.length ≤ 300) (hl : l.length ≤ 200) :
    Calls Try.prog 4 #[va, vb] w fun e w' => e = .returned (.bool true) ∧ Keep Nil w w' := by
  obtain ⟨a, c, rfl, -, -⟩ := id h1
  obtain ⟨a2, c2, rfl, -, -⟩ := id h2
  have H1 := hid h1
  have H2 := hid h2
  clear h1 h2
  go_enter Try.func4, Try.ntmps4
  go_wp2_with (at_builtin; refine wpList_app _ rfl (.tmp 20) (.tmp 21) 22 rfl 39 _ 1 8 Try.underlying22 infoU64 rfl (by decide) (.slice (some ⟨w.heap.size, 0, none⟩) 0 0) 0 [] rfl ?own (.slice a ws.length c) ws.length (u64s ws) rfl ?rd ?one ?byt ?len ?_)
  case own => exact empty_row w _ _
  case rd => exact rd_keep H1.out (Keep.alloc (Keep.refl Nil _) _) (fun _ _ h => h)
  case one => exact u64s_one _
  case byt => omega
  case len => unfold maxLen; omega
  intro oa oc w1 ho hg hs
  have k1 : Keep Nil w w1 := Keep.grown (Keep.alloc (Keep.refl _ _) _) hg (fun j hj => .inr (by simp [Value.ownBlock] at hj; omega))
  have r1 := row_rd ho
  have K1 := hid k1
  have R1 := hid r1
  clear ho hg hs k1 r1
  go_wp2_with (at_builtin; refine wpList_app _ rfl (.tmp 25) (.tmp 26) 33 rfl 56 _ 6 48 Try.underlying33 infoAcc rfl (by decide) (.slice (some ⟨w1.heap.size, 0, none⟩) 0 0) 0 [] rfl ?own (.slice a2 l.length c2) l.length (logCells l) rfl ?rd ?one ?byt ?len ?_)
  case own => exact empty_row w1 _ _
  case rd => exact rd_keep H2.out (K1.out.alloc _) (fun _ _ h => h)
  case one => exact logCells_one _
  case byt => omega
  case len => unfold maxLen; omega
  intro pa pc w2 ho hg hs
  have k2 : Keep Nil w1 w2 := Keep.grown (Keep.alloc (Keep.refl _ _) _) hg (fun j hj => .inr (by simp [Value.ownBlock] at hj; omega))
  have r2 := row_rd ho
  have K2 := hid k2
  have R2 := hid r2
  clear ho hg hs k2 r2
  go_wp2_with fail
  by_cases h0 : ws.length = 0
  · obtain rfl : ws = [] := List.eq_nil_of_length_eq_zero h0
    refine (replay_err _ 0 _ _ _ (.inl rfl) (Nat.zero_le _)).mono ?_
    rintro e w3 ⟨rfl, rfl⟩
    go_wp2_with fail
    refine (rreplay_err _ 0 _ _ _ (.inl rfl) (Nat.zero_le _)).mono ?_
    rintro e w3 ⟨rfl, rfl⟩
    clear h0
    go_wp2_with fail
    refine (eqU_yes _ _ [] _ (rd_nil _ _) (rd_nil _ _) (by simp)).mono ?_
    rintro e w5 ⟨rfl, k5⟩
    have K5 := hid k5
    clear k5
    go_wp2_with fail
    refine (eqU_yes _ _ [] _ (rd_keep R1.out (K2.out.trans K5.out (fun _ _ h => h)) (fun _ _ h => h)) (rd_keep H1.out ((K1.out.trans K2.out (fun _ _ h => h)).trans K5.out (fun _ _ h => h)) (fun _ _ h => h)) (by simp)).mono ?_
    rintro e w6 ⟨rfl, k6⟩
    go_wp2
    go_ret
    exact ⟨rfl, ((K1.out.trans K2.out (fun _ _ h => h)).trans K5.out (fun _ _ h => h)).trans k6 (fun _ _ h => h)⟩
  · refine (replay_ok _ _ ws l _ (rd_keep R1.out K2.out (fun _ _ h => h)) R2.out (by omega) (by omega) (by omega)).mono ?_
    rintro e w3 ⟨k3, hA⟩
    have kk3 := (K1.out.trans K2.out (fun _ _ h => h)).trans k3 (fun _ _ h => h)
    have KK3 := hid kk3
    have RO := hid (rd_keep R1.out (K2.out.trans k3 (fun _ _ h => h)) (fun _ _ h => h))
    rcases hA with ⟨cur, v, haf, rfl, hv⟩ | ⟨k, hb, rfl⟩
    · have HAF := hid haf
      have HV := hid hv
      clear haf hv k3 kk3
      go_wp2_with fail
      refine (rreplay_ok _ _ ws l _ (rd_keep H1.out KK3.out (fun _ _ h => h)) (rd_keep H2.out KK3.out (fun _ _ h => h)) (by omega) (by omega) (by omega)).mono ?_
      rintro e w4 ⟨k4, hB⟩
      rcases hB with ⟨cur', v', haf', rfl, hv'⟩ | ⟨k, hb, rfl⟩
      · obtain rfl : cur = cur' := by have := HAF.out; rw [haf'] at this; exact (Option.some.inj this).symm
        have hcl : cur.length ≤ 300 := by rw [after_length HAF.out]; omega
        have HK4 := hid k4
        have HV' := hid hv'
        clear haf' hv' k4
        go_wp2_with fail
        refine (eqU_yes _ _ cur _ (rd_keep HV.out HK4.out (fun _ _ h => h)) HV'.out (by omega)).mono ?_
        rintro e w5 ⟨rfl, k5⟩
        have HK5 := hid k5
        clear k5
        go_wp2_with fail
        have k45 := HK4.out.trans HK5.out (fun _ _ h => h)
        refine (eqU_yes _ _ ws _ (rd_keep RO.out k45 (fun _ _ h => h)) (rd_keep H1.out (KK3.out.trans k45 (fun _ _ h => h)) (fun _ _ h => h)) (by omega)).mono ?_
        rintro e w6 ⟨rfl, k6⟩
        go_wp2
        go_ret
        exact ⟨rfl, (KK3.out.trans k45 (fun _ _ h => h)).trans k6 (fun _ _ h => h)⟩
      · exact absurd hb.none (by rw [HAF.out]; simp)
    · have HB := hid hb
      clear hb k3 kk3
      go_wp2_with fail
      refine (rreplay_ok _ _ ws l _ (rd_keep H1.out KK3.out (fun _ _ h => h)) (rd_keep H2.out KK3.out (fun _ _ h => h)) (by omega) (by omega) (by omega)).mono ?_
      rintro e w4 ⟨k4, hB⟩
      rcases hB with ⟨cur', v', haf', rfl, hv'⟩ | ⟨k', hb, rfl⟩
      · exact absurd HB.out.none (by rw [haf']; simp)
      · obtain rfl := HB.out.one hb
        have HK4 := hid k4
        clear hb k4
        go_wp2_with fail
        refine (eqU_yes _ _ [] _ (rd_nil _ _) (rd_nil _ _) (by simp)).mono ?_
        rintro e w5 ⟨rfl, k5⟩
        have HK5 := hid k5
        clear k5
        go_wp2_with fail
        have k45 := HK4.out.trans HK5.out (fun _ _ h => h)
        refine (eqU_yes _ _ ws _ (rd_keep RO.out k45 (fun _ _ h => h)) (rd_keep H1.out (KK3.out.trans k45 (fun _ _ h => h)) (fun _ _ h => h)) (by omega)).mono ?_
        rintro e w6 ⟨rfl, k6⟩
        go_wp2
        go_ret
        exact ⟨rfl, (KK3.out.trans k45 (fun _ _ h => h)).trans k6 (fun _ _ h => h)⟩

set_option maxHeartbeats 400000 in
theorem replays_long1 (a a2 : Option Addr) (n c m c2 : Nat) (w : World) (hn : 300 < n) (h : n ≤ maxLen) :
    Calls Try.prog 4 #[.slice a n c, .slice a2 m c2] w fun e w' => e = .returned (.bool true) ∧ Keep Nil w w' := by
  unfold maxLen at h
  go_enter Try.func4, Try.ntmps4
  go_wp2
  go_ret
  exact ⟨rfl, Keep.refl _ _⟩
set_option maxHeartbeats 400000 in
theorem replays_long2 (a a2 : Option Addr) (n c m c2 : Nat) (w : World) (hn : n ≤ 300) (hm : 200 < m) (h : m ≤ maxLen) :
    Calls Try.prog 4 #[.slice a n c, .slice a2 m c2] w fun e w' => e = .returned (.bool true) ∧ Keep Nil w w' := by
  unfold maxLen at h
  go_enter Try.func4, Try.ntmps4
  go_wp2
  go_ret
  exact ⟨rfl, Keep.refl _ _⟩

theorem walk_replays (w : World) (va : Value) (ws : List Int) (h1 : Rd w 1 va ws.length (u64s ws)) (_b1 : ∀ n ∈ ws, (Lit.int .u64 n).wf = true) (m1 : ws.length ≤ maxLen)
    (vb : Value) (l : List Acc) (h2 : Rd w 6 vb l.length (logCells l)) (_b2 : ∀ x ∈ l, Acc.wf x) (m2 : l.length ≤ maxLen) :
    Calls Try.prog 4 #[va, vb] w fun e w' => e = .returned (.bool true) ∧ Keep Nil w w' := by
  by_cases hn : ws.length ≤ 300
  · by_cases hm : l.length ≤ 200
    · exact replays_ok va vb ws l w h1 h2 hn hm
    · obtain ⟨a, c, rfl, -, -⟩ := h1
      obtain ⟨a2, c2, rfl, -, -⟩ := h2
      exact replays_long2 _ _ _ _ _ _ _ hn (by omega) m2
  · obtain ⟨a, c, rfl, -, -⟩ := h1
    obtain ⟨a2, c2, rfl, -, -⟩ := h2
    exact replays_long1 _ _ _ _ _ _ _ (by omega) m1
end Go.Proofs.Ytnfkjdmjgphghaa
