/- full: what a thread does next: contracts. -/
import Derived.Test.YtckopbjejjeknaaFullWait
namespace Go.Proofs.Ytckopbjejjeknaa
open Go.RowKit Go.Lf
section
variable {w wr : World} {rb g nb bb mb : Nat} {F : Nat → Prop} {nums : List Int} {beg : List Bool} {th : List PT} {log : List Acc}

theorem set_self {α : Type} {l : List α} {i : Nat} {x : α} (h : l[i]? = some x) (y : α) : (l.set i y)[i]? = some y := by
  rw [List.getElem?_set, if_pos rfl, if_pos (lt_of_at h)]

set_option maxRecDepth 100000 in
set_option maxHeartbeats 8000000 in
theorem renter_ok (h : RunAt w wr rb g nb bb mb F nums beg th log) (t : Nat) (x : PT) (eb : Nat) (hx : th[t]? = some x) (hen : x.en = some eb) (he : EntAt wr eb g t t true) (hF : ¬ F eb) (hle : w.heap.size ≤ eb) (n : Int) (hn : nums[t]? = some n) (n0 : 0 ≤ n) (n1 : n < 1000000000000) (hlog : log.length < 100000000000) (hsec : 0 ≤ x.sec) (hsec1 : x.sec < 1000000000000) :
    Calls Try.prog 65 #[.pointer (some ⟨rb, 0, none⟩), .int .i64 t] wr fun e w' => e = .returned (.bool true) ∧ RunTo w rb g nb bb mb (nums.set t (n + 1)) (beg.set t false) (th.set t { x with en := none, inn := true, sec := x.sec + 1 }) (log.length + 1) w' := by
  have t6 : t < 6 := by have := lt_of_at hx; have := h.lth; omega
  obtain ⟨c0, c1, c2, c3, c4, c5, c6⟩ := h.cells hx
  rw [hen] at c0
  simp only [ptrE] at c0
  have ln := h.lnum
  have hsx := fent_step h.sys he hF n n (by omega) (by omega) hn n0 n1 (Int.le_refl 0) (by decide) (by omega) (by rw [show ((0 : Int) + (t : Int)).toNat = t by omega]; exact hn) (by omega)
  rw [show ((0 : Int) + (t : Int)).toNat = t by omega] at hsx
  have ST := hid hsx
  have H := hid h
  have HX := hid hx
  have HE := hid he
  have HF := hid hF
  clear h hx hen hn hsx he hF c1 c2 c3 c5 c6
  go_enter Try.func65, Try.ntmps65
  go_wp2_with fail
  refine ST.out.mono ?_
  rintro e w2 ⟨rfl, F2, hs2, he2, hk2, hf2, hn2⟩
  have r2 := H.out.adv hs2 hk2 hf2 (fun k hk _ => by
    rcases hk with hk | hk | hk | hk
    · exact .inl hk
    · exact .inr (.inl hk)
    · exact .inr (.inr (.inl hk))
    · exact .inr (.inr (.inr ⟨eb, t, t, true, .inr (.inr (.inr hk)), hk, HE.out, hle⟩))) (by simp [ln]) (by simp [H.out.lbeg])
  have z0 := r2.free (2 + t * 7)
  have z2 := r2.free (2 + t * 7 + 2)
  have z4 := r2.free (2 + t * 7 + 4)
  obtain ⟨d0, d1, d2, d3, d4, d5, d6⟩ := r2.cells HX.out
  have a0 := r2.turn HX.out (j := 0) (by decide) (.pointer none) (x' := { x with en := none }) rfl (.inl rfl) rfl
  have a2 := a0.turn (set_self HX.out _) (j := 2) (by decide) (.bool true) (x' := { x with en := none, inn := true }) rfl (.inl rfl) rfl
  rw [List.set_set] at a2
  have a4 := a2.turn (set_self HX.out _) (j := 4) (by decide) (.int .i64 (x.sec + 1)) (x' := { x with en := none, inn := true, sec := x.sec + 1 }) rfl (.inl rfl) rfl
  rw [List.set_set] at a4
  have A4 := hid a4
  clear ST hs2 he2 hk2 hf2 hn2 r2 a0 a2 a4 c0 c4 d1 d3 d5 d6
  go_wp2
  go_ret
  exact ⟨rfl, F2, _, A4.out, by simp⟩

/-! act. -/
set_option maxRecDepth 100000 in
set_option maxHeartbeats 4000000 in
theorem act_out (h : RunAt w wr rb g nb bb mb F nums beg th log) (t : Nat) (x : PT) (hx : th[t]? = some x) (hen : x.en = none) (hwt : x.wt = none) (hin : x.inn = true) (what v s : Int) (h0 : 0 ≤ what) (hw : 1 < what % 4) :
    Calls Try.prog 37 #[.pointer (some ⟨rb, 0, none⟩), .int .i64 t, .int .u8 what, .int .i64 v, .int .u64 s] wr fun e w' => e = .returned (.bool true) ∧ wr = w' := by
  have t6 : t < 6 := by have := lt_of_at hx; have := h.lth; omega
  obtain ⟨c0, c1, c2, c3, c4, c5, c6⟩ := h.cells hx
  rw [hen] at c0
  rw [hwt] at c1
  rw [hin] at c2
  simp only [ptrE] at c0
  simp only [ptrW] at c1
  have d1 : decide (1 < what % 4) = true := decide_eq_true hw
  clear h hx hen hwt hin hw c3 c4 c5 c6
  go_enter Try.func37, Try.ntmps37
  go_wp2
  go_ret
  exact ⟨rfl, rfl⟩

set_option maxRecDepth 100000 in
set_option maxHeartbeats 4000000 in
theorem act_exit (h : RunAt w wr rb g nb bb mb F nums beg th log) (t : Nat) (x : PT) (hx : th[t]? = some x) (hen : x.en = none) (hwt : x.wt = none) (hin : x.inn = true) (what v s : Int) (h0 : 0 ≤ what) (hw : ¬ 1 < what % 4) (n : Int) (hn : nums[t]? = some n) (n0 : 0 ≤ n) (n1 : n < 1000000000000) (hodd : n % 2 = 1) (hlog : log.length < 100000000000) :
    Calls Try.prog 37 #[.pointer (some ⟨rb, 0, none⟩), .int .i64 t, .int .u8 what, .int .i64 v, .int .u64 s] wr fun e w' => e = .returned (.bool true) ∧ RunTo w rb g nb bb mb (nums.set t (n + 1)) beg (th.set t { x with inn := false }) (log.length + 1) w' := by
  have t6 : t < 6 := by have := lt_of_at hx; have := h.lth; omega
  obtain ⟨c0, c1, c2, c3, c4, c5, c6⟩ := h.cells hx
  rw [hen] at c0
  rw [hwt] at c1
  rw [hin] at c2
  simp only [ptrE] at c0
  simp only [ptrW] at c1
  have cg := h.top.2
  have ln := h.lnum
  have d1 : decide (1 < what % 4) = false := decide_eq_false hw
  have hsx := fexit_ok (t := (t : Int)) h.sys n n (by omega) (by omega) hn n0 n1 hodd (Int.le_refl 0) (by decide) (by omega) (by rw [show ((0 : Int) + (t : Int)).toNat = t by omega]; exact hn) (by omega)
  rw [show ((0 : Int) + (t : Int)).toNat = t by omega] at hsx
  have ST := hid hsx
  have H := hid h
  have HX := hid hx
  clear h hx hen hwt hin hw hn hsx hodd c3 c4 c5 c6
  go_enter Try.func37, Try.ntmps37
  go_wp2_with fail
  refine ST.out.mono ?_
  rintro e w2 ⟨rfl, F2, hs2, hk2, hf2⟩
  have r2 := H.out.adv hs2 hk2 hf2 (fun k hk _ => by
    rcases hk with hk | hk | hk
    · exact .inl hk
    · exact .inr (.inl hk)
    · exact .inr (.inr (.inl hk))) (by simp [ln]) H.out.lbeg
  have z2 := r2.free (2 + t * 7 + 2)
  have d2 := (r2.cells HX.out).2.2.1
  have a2 := r2.turn HX.out (j := 2) (by decide) (.bool false) (x' := { x with inn := false }) rfl (.inl rfl) rfl
  have A2 := hid a2
  clear ST hs2 hk2 hf2 r2 a2 c0 c1 c2 cg
  go_wp2
  go_ret
  exact ⟨rfl, F2, _, A2.out, by simp⟩

set_option maxRecDepth 100000 in
set_option maxHeartbeats 4000000 in
theorem act_wait (h : RunAt w wr rb g nb bb mb F nums beg th log) (t : Nat) (x : PT) (b : Nat) (s0 : WS) (hx : th[t]? = some x) (hen : x.en = none) (hb : x.wt = some (b, s0)) (what v s : Int) {e0 : Bool} {Q : World → Prop}
    (hc : Calls Try.prog 66 #[.pointer (some ⟨rb, 0, none⟩), .int .i64 t] wr fun e w' => e = .returned (.bool e0) ∧ Q w') :
    Calls Try.prog 37 #[.pointer (some ⟨rb, 0, none⟩), .int .i64 t, .int .u8 what, .int .i64 v, .int .u64 s] wr fun e w' => e = .returned (.bool e0) ∧ Q w' := by
  have t6 : t < 6 := by have := lt_of_at hx; have := h.lth; omega
  obtain ⟨c0, c1, c2, c3, c4, c5, c6⟩ := h.cells hx
  rw [hen] at c0
  rw [hb] at c1
  simp only [ptrE] at c0
  simp only [ptrW] at c1
  have HC := hid hc
  clear h hx hen hb hc c2 c3 c4 c5 c6
  go_enter Try.func37, Try.ntmps37
  go_wp2_with fail
  refine HC.out.mono ?_
  rintro e w2 ⟨rfl, hq⟩
  have HQ := hid hq
  clear hq
  go_wp2
  go_ret
  exact ⟨rfl, HQ.out⟩
end
end Go.Proofs.Ytckopbjejjeknaa
