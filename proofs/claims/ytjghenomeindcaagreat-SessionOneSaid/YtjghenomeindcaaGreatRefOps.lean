
/- leapfrogref08: check, Thread, New, Load, Store, Add, CompareAndSwap, Peek, Log: contracts. -/
import Derived.Test.YtjghenomeindcaaGreatRef
namespace Go.Proofs.YtjghenomeindcaaGreat
open Go.RowKit Go.Lf

set_option maxHeartbeats 400000 in
theorem thread_yes (t : Int) (h0 : 0 ≤ t) (h1 : t < 64) (w : World) : Calls Tryz.prog 83 #[.int .i64 t] w fun e w' => e = .returned (.bool true) ∧ w = w' := by
  have e0 : decide (0 ≤ t) = true := by simpa using h0
  have e1 : decide (t < 64) = true := by simpa using h1
  go_enter Tryz.func83, Tryz.ntmps83
  go_wp2
  go_ret
  exact ⟨rfl, rfl⟩
set_option maxHeartbeats 400000 in
theorem thread_no (t : Int) (h : t < 0 ∨ 64 ≤ t) (w : World) : Calls Tryz.prog 83 #[.int .i64 t] w fun e w' => e = .returned (.bool false) ∧ w = w' := by
  by_cases h0 : 0 ≤ t
  · have e0 : decide (0 ≤ t) = true := by simpa using h0
    have e1 : decide (t < 64) = false := by simp; omega
    clear h
    go_enter Tryz.func83, Tryz.ntmps83
    go_wp2
    go_ret
    exact ⟨rfl, rfl⟩
  · have e0 : decide (0 ≤ t) = false := by simpa using h0
    clear h h0
    go_enter Tryz.func83, Tryz.ntmps83
    go_wp2
    go_ret
    exact ⟨rfl, rfl⟩

section
variable {b : Nat} {F : Nat → Prop} {ws : List Int} {log : List Acc} {w : World}

set_option maxHeartbeats 400000 in
theorem rcheck_any (b : Nat) (t i : Int) (aw : Option Addr) (n c : Nat) (w : World) (hc : w.cell? ⟨b, 0, none⟩ = some (.slice aw n c)) :
    Calls Tryz.prog 140 #[.pointer (some ⟨b, 0, none⟩), .int .i64 t, .int .i64 i] w fun e w' => e = .returned (.int .i64 (errOf t i n)) ∧ w = w' := by
  by_cases hT : 0 ≤ t ∧ t < 64
  · by_cases hI : i < 0 ∨ (n : Int) ≤ i
    · have hE : errOf t i n = 3 := by unfold errOf; rw [if_neg (by omega), if_pos hI]
      rw [hE]
      clear hE
      rcases Int.lt_or_le i 0 with h | h
      · clear hI
        go_enter Tryz.func140, Tryz.ntmps140
        go_wp2_with (go_at_call 83; refine (thread_yes _ hT.1 hT.2 _).mono ?_; rintro e w' ⟨rfl, rfl⟩)
        go_ret
        exact ⟨rfl, rfl⟩
      · have h2 : (n : Int) ≤ i := by omega
        clear hI
        go_enter Tryz.func140, Tryz.ntmps140
        go_wp2_with (go_at_call 83; refine (thread_yes _ hT.1 hT.2 _).mono ?_; rintro e w' ⟨rfl, rfl⟩)
        go_ret
        exact ⟨rfl, rfl⟩
    · have hE : errOf t i n = 0 := errOf_zero.2 (by omega)
      have h1 : 0 ≤ i := by omega
      have h2 : i < (n : Int) := by omega
      rw [hE]
      clear hE hI
      go_enter Tryz.func140, Tryz.ntmps140
      go_wp2_with (go_at_call 83; refine (thread_yes _ hT.1 hT.2 _).mono ?_; rintro e w' ⟨rfl, rfl⟩)
      go_ret
      exact ⟨rfl, rfl⟩
  · have hE : errOf t i n = 2 := by unfold errOf; rw [if_pos (by omega)]
    have hT' := hid hT
    rw [hE]
    clear hE hT
    go_enter Tryz.func140, Tryz.ntmps140
    go_wp2_with (go_at_call 83; refine (thread_no _ (by have := hT'.out; omega) _).mono ?_; rintro e w' ⟨rfl, rfl⟩)
    go_ret
    exact ⟨rfl, rfl⟩

/-- check at a thread and an address that exist. -/
theorem rcheck_ok (b : Nat) (t i : Int) (aw : Option Addr) (n c : Nat) (w : World) (hc : w.cell? ⟨b, 0, none⟩ = some (.slice aw n c)) (ht0 : 0 ≤ t) (ht1 : t < 64) (hi0 : 0 ≤ i) (hi1 : i < n) :
    Calls Tryz.prog 140 #[.pointer (some ⟨b, 0, none⟩), .int .i64 t, .int .i64 i] w fun e w' => e = .returned (.int .i64 0) ∧ w = w' := by
  have h := rcheck_any b t i aw n c w hc
  rwa [errOf_zero.2 ⟨ht0, ht1, hi0, hi1⟩] at h

set_option maxHeartbeats 400000 in
theorem rload_ok (h : RefAt w b F ws log) (t i x : Int) (ht0 : 0 ≤ t) (ht1 : t < 64) (hi0 : 0 ≤ i) (hx : ws[i.toNat]? = some x) (hn : log.length < 1000000000000) :
    Calls Tryz.prog 132 #[.pointer (some ⟨b, 0, none⟩), .int .i64 t, .int .i64 i] w fun e w' => e = .returned (.tuple #[.int .u64 x, .int .i64 0]) ∧ RefTo w b F ws (log ++ [⟨t, i, 1, x, x, false⟩]) w' := by
  obtain ⟨gw, wc, la, lc, hr, hF⟩ := h.rep
  have ha := access_any h t i 1 x x false hi0 hx hn
  obtain ⟨n, rfl⟩ := Int.eq_ofNat_of_zero_le hi0
  rw [Int.toNat_natCast] at hx ha
  have hs : ws.set n x = ws := set_self hx
  rw [hs] at ha
  have hlt : n < ws.length := lt_of_at hx
  have hc0 := hr.cell0
  have hcx := hr.word hx
  have HA := hid ha
  clear hx hr ha hs
  go_enter Tryz.func132, Tryz.ntmps132
  go_wp2_with (first | (go_at_call 140; refine (rcheck_ok _ _ _ _ _ _ _ hc0 ht0 ht1 (by omega) (by omega)).mono ?_; rintro e w' ⟨rfl, rfl⟩) | (go_at_call 141; refine HA.out.mono ?_; rintro e w' ⟨rfl, hto⟩))
  go_ret2
  exact ⟨rfl, hto⟩

set_option maxHeartbeats 400000 in
theorem rload_err (h : RefAt w b F ws log) (t i : Int) (he : errOf t i ws.length ≠ 0) :
    Calls Tryz.prog 132 #[.pointer (some ⟨b, 0, none⟩), .int .i64 t, .int .i64 i] w fun e w' => e = .returned (.tuple #[.int .u64 0, .int .i64 (errOf t i ws.length)]) ∧ w = w' := by
  obtain ⟨gw, wc, la, lc, hr, hF⟩ := h.rep
  have hc0 := hr.cell0
  clear hr
  have hne : (errOf t i ws.length != 0) = true := by simpa using he
  go_enter Tryz.func132, Tryz.ntmps132
  go_wp2_with (go_at_call 140; refine (rcheck_any _ _ _ _ _ _ _ hc0).mono ?_; rintro e w' ⟨rfl, rfl⟩)
  go_ret2
  exact ⟨rfl, rfl⟩

set_option maxHeartbeats 400000 in
theorem rstore_ok (h : RefAt w b F ws log) (t i x v : Int) (ht0 : 0 ≤ t) (ht1 : t < 64) (hi0 : 0 ≤ i) (hx : ws[i.toNat]? = some x) (hn : log.length < 1000000000000) :
    Calls Tryz.prog 103 #[.pointer (some ⟨b, 0, none⟩), .int .i64 t, .int .i64 i, .int .u64 v] w fun e w' => e = .returned (.int .i64 0) ∧ RefTo w b F (ws.set i.toNat v) (log ++ [⟨t, i, 2, x, v, false⟩]) w' := by
  obtain ⟨gw, wc, la, lc, hr, hF⟩ := h.rep
  have ha := access_any h t i 2 v x false hi0 hx hn
  have hlt := lt_of_at hx
  have hc0 := hr.cell0
  have HA := hid ha
  clear hx hr ha
  go_enter Tryz.func103, Tryz.ntmps103
  go_wp2_with (first | (go_at_call 140; refine (rcheck_ok _ _ _ _ _ _ _ hc0 ht0 ht1 (by omega) (by omega)).mono ?_; rintro e w' ⟨rfl, rfl⟩) | (go_at_call 141; refine HA.out.mono ?_; rintro e w' ⟨rfl, hto⟩))
  go_ret
  exact ⟨rfl, hto⟩

set_option maxHeartbeats 400000 in
theorem rstore_err (h : RefAt w b F ws log) (t i v : Int) (he : errOf t i ws.length ≠ 0) :
    Calls Tryz.prog 103 #[.pointer (some ⟨b, 0, none⟩), .int .i64 t, .int .i64 i, .int .u64 v] w fun e w' => e = .returned (.int .i64 (errOf t i ws.length)) ∧ w = w' := by
  obtain ⟨gw, wc, la, lc, hr, hF⟩ := h.rep
  have hc0 := hr.cell0
  clear hr
  have hne : (errOf t i ws.length != 0) = true := by simpa using he
  go_enter Tryz.func103, Tryz.ntmps103
  go_wp2_with (go_at_call 140; refine (rcheck_any _ _ _ _ _ _ _ hc0).mono ?_; rintro e w' ⟨rfl, rfl⟩)
  go_ret
  exact ⟨rfl, rfl⟩

set_option maxHeartbeats 400000 in
theorem rcas_yes (h : RefAt w b F ws log) (t i x v : Int) (ht0 : 0 ≤ t) (ht1 : t < 64) (hi0 : 0 ≤ i) (hx : ws[i.toNat]? = some x) (hn : log.length < 1000000000000) :
    Calls Tryz.prog 104 #[.pointer (some ⟨b, 0, none⟩), .int .i64 t, .int .i64 i, .int .u64 x, .int .u64 v] w fun e w' => e = .returned (.tuple #[.bool true, .int .i64 0]) ∧
      RefTo w b F (ws.set i.toNat v) (log ++ [⟨t, i, 4, x, v, true⟩]) w' := by
  obtain ⟨gw, wc, la, lc, hr, hF⟩ := h.rep
  have ha := access_any h t i 4 v x true hi0 hx hn
  obtain ⟨n, rfl⟩ := Int.eq_ofNat_of_zero_le hi0
  rw [Int.toNat_natCast] at hx ha ⊢
  have hlt := lt_of_at hx
  have hc0 := hr.cell0
  have hcx := hr.word hx
  have HA := hid ha
  clear hx hr ha
  go_enter Tryz.func104, Tryz.ntmps104
  go_wp2_with (first | (go_at_call 140; refine (rcheck_ok _ _ _ _ _ _ _ hc0 ht0 ht1 (by omega) (by omega)).mono ?_; rintro e w' ⟨rfl, rfl⟩) | (go_at_call 141; refine HA.out.mono ?_; rintro e w' ⟨rfl, hto⟩))
  go_ret2
  exact ⟨rfl, hto⟩

set_option maxHeartbeats 400000 in
theorem rcas_no (h : RefAt w b F ws log) (t i x o v : Int) (ht0 : 0 ≤ t) (ht1 : t < 64) (hi0 : 0 ≤ i) (hx : ws[i.toNat]? = some x) (hne : x ≠ o) (hn : log.length < 1000000000000) :
    Calls Tryz.prog 104 #[.pointer (some ⟨b, 0, none⟩), .int .i64 t, .int .i64 i, .int .u64 o, .int .u64 v] w fun e w' => e = .returned (.tuple #[.bool false, .int .i64 0]) ∧
      RefTo w b F ws (log ++ [⟨t, i, 4, x, x, false⟩]) w' := by
  obtain ⟨gw, wc, la, lc, hr, hF⟩ := h.rep
  have ha := access_any h t i 4 x x false hi0 hx hn
  obtain ⟨n, rfl⟩ := Int.eq_ofNat_of_zero_le hi0
  rw [Int.toNat_natCast] at hx ha
  rw [set_self hx] at ha
  have hlt := lt_of_at hx
  have hc0 := hr.cell0
  have hcx := hr.word hx
  have hq : (x == o) = false := by simpa using hne
  have HA := hid ha
  clear hx hr ha hne
  go_enter Tryz.func104, Tryz.ntmps104
  go_wp2_with (first | (go_at_call 140; refine (rcheck_ok _ _ _ _ _ _ _ hc0 ht0 ht1 (by omega) (by omega)).mono ?_; rintro e w' ⟨rfl, rfl⟩) | (go_at_call 141; refine HA.out.mono ?_; rintro e w' ⟨rfl, hto⟩))
  go_ret2
  exact ⟨rfl, hto⟩

set_option maxHeartbeats 400000 in
theorem rcas_err (h : RefAt w b F ws log) (t i o v : Int) (he : errOf t i ws.length ≠ 0) :
    Calls Tryz.prog 104 #[.pointer (some ⟨b, 0, none⟩), .int .i64 t, .int .i64 i, .int .u64 o, .int .u64 v] w fun e w' => e = .returned (.tuple #[.bool false, .int .i64 (errOf t i ws.length)]) ∧ w = w' := by
  obtain ⟨gw, wc, la, lc, hr, hF⟩ := h.rep
  have hc0 := hr.cell0
  clear hr
  have hne : (errOf t i ws.length != 0) = true := by simpa using he
  go_enter Tryz.func104, Tryz.ntmps104
  go_wp2_with (go_at_call 140; refine (rcheck_any _ _ _ _ _ _ _ hc0).mono ?_; rintro e w' ⟨rfl, rfl⟩)
  go_ret2
  exact ⟨rfl, rfl⟩

end
end Go.Proofs.YtjghenomeindcaaGreat
