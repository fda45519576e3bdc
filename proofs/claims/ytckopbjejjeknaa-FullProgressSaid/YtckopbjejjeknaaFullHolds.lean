/- full: holds. -/
import Derived.Test.YtckopbjejjeknaaFullPlay
import Derived.LaidEqlPtr
namespace Go.Lf
def z0 : PT := ⟨none, false, 0, 0, 0, none, none⟩
def tI : PT := ⟨none, true, 3, 1, 0, none, none⟩
def tO : PT := ⟨none, false, 3, 1, 0, none, none⟩
def tW (b sb : Nat) (s : WS) : PT := ⟨some (b, s), false, 0, 0, 8, some (sb, [1, 0, 0, 0, 0, 0]), none⟩
def tE (sb : Nat) : PT := ⟨none, false, 0, 0, 8, some (sb, [1, 0, 0, 0, 0, 0]), none⟩
def wsk (k : Nat) : WS := if k = 0 then ⟨0, 1, 1⟩ else ⟨k, 0, 1⟩
/-- The second thread after k steps behind the section. -/
def tK (b sb k : Nat) : PT := if k < 6 then tW b sb (wsk k) else tE sb
theorem wsk_step (k : Nat) (h : k < 6) (y : Int) (hy : [2, 0, 0, 0, 0, 0][(wsk k).pos]? = some y) : (k < 5 → (wsk k).step 6 y = wsk (k + 1)) ∧ (k = 5 → 2 ≤ ((wsk k).step 6 y).st) ∧ (wsk k).st < 2 ∧ (wsk k).pos < 6 ∧ 0 ≤ y ∧ (k < 5 → ((wsk k).step 6 y).st < 2) := by
  have : k = 0 ∨ k = 1 ∨ k = 2 ∨ k = 3 ∨ k = 4 ∨ k = 5 := by omega
  rcases this with rfl | rfl | rfl | rfl | rfl | rfl <;> (simp [wsk] at hy; subst hy; refine ⟨fun h => ?_, fun h => ?_, by decide, by decide, by decide, fun h => ?_⟩ <;> first | rfl | decide | omega)
end Go.Lf
namespace Go.Proofs.Ytckopbjejjeknaa
open Go.RowKit Go.Lf
section
variable {w wr : World} {rb g nb bb mb : Nat} {F : Nat → Prop} {log : List Acc}

theorem hold1 (h : RunAt w wr rb g nb bb mb F [0, 0, 0, 0, 0, 0] noBeg [z0, z0, z0, z0, z0, z0] log) (hlog : log.length < 1000) :
    Calls Try.prog 37 #[.pointer (some ⟨rb, 0, none⟩), .int .i64 0, .int .u8 0, .int .i64 3, .int .u64 1] wr fun e w' => e = .returned (.bool true) ∧ RunTo w rb g nb bb mb [1, 0, 0, 0, 0, 0] noBeg [tI, z0, z0, z0, z0, z0] (log.length + 1) w' :=
  act_enter h 0 z0 rfl rfl rfl rfl 0 3 1 (by decide) (by decide) (by decide) (by decide) 0 rfl (by decide) (by decide) (by decide) rfl (by omega) (by decide) (by decide)

theorem RunTo.more {nums : List Int} {beg : List Bool} {th : List PT} {n n' : Nat} {w' : World} (h : RunTo w rb g nb bb mb nums beg th n w') (hn : n ≤ n') : RunTo w rb g nb bb mb nums beg th n' w' := by
  obtain ⟨F', log', h1, h2⟩ := h
  exact ⟨F', log', h1, by omega⟩
def Hold2To (w : World) (rb g nb bb mb n : Nat) (w' : World) : Prop := ∃ b sb, RunTo w rb g nb bb mb [1, 0, 0, 0, 0, 0] noBeg [tI, tW b sb ⟨0, 1, 1⟩, z0, z0, z0, z0] n w'
theorem hold2 (h : RunAt w wr rb g nb bb mb F [1, 0, 0, 0, 0, 0] noBeg [tI, z0, z0, z0, z0, z0] log) (hlog : log.length < 1000) :
    Calls Try.prog 37 #[.pointer (some ⟨rb, 0, none⟩), .int .i64 1, .int .u8 2, .int .i64 0, .int .u64 8] wr fun e w' => e = .returned (.bool true) ∧ Hold2To w rb g nb bb mb (log.length + 1) w' :=
  act_begin h 1 z0 rfl rfl rfl rfl 2 0 8 (by decide) (by decide) (by decide) 1 rfl (by decide) (by omega)
theorem hold3 {b sb : Nat} (h : RunAt w wr rb g nb bb mb F [1, 0, 0, 0, 0, 0] noBeg [tI, tW b sb ⟨0, 1, 1⟩, z0, z0, z0, z0] log) (hlog : log.length < 1000) :
    Calls Try.prog 37 #[.pointer (some ⟨rb, 0, none⟩), .int .i64 1, .int .u8 2, .int .i64 0, .int .u64 8] wr fun e w' => e = .returned (.bool true) ∧ Hold2To w rb g nb bb mb (log.length + 1) w' := by
  refine act_wait h 1 (tW b sb ⟨0, 1, 1⟩) b ⟨0, 1, 1⟩ rfl rfl rfl 2 0 8 ((rwait_ok h 1 (tW b sb ⟨0, 1, 1⟩) b ⟨0, 1, 1⟩ rfl rfl (by decide) (by decide) 1 rfl (by decide) sb [1, 0, 0, 0, 0, 0] rfl (by omega) (fun he => absurd he (by decide))).mono ?_)
  rintro e w' ⟨rfl, hr⟩
  exact ⟨rfl, b, sb, hr⟩
theorem hold5 {b sb k : Nat} (hk : k < 6) (h : RunAt w wr rb g nb bb mb F [2, 0, 0, 0, 0, 0] noBeg [tO, tK b sb k, z0, z0, z0, z0] log) (hlog : log.length < 1000) :
    Calls Try.prog 37 #[.pointer (some ⟨rb, 0, none⟩), .int .i64 1, .int .u8 2, .int .i64 0, .int .u64 8] wr fun e w' => e = .returned (.bool true) ∧ RunTo w rb g nb bb mb [2, 0, 0, 0, 0, 0] noBeg [tO, tK b sb (k + 1), z0, z0, z0, z0] (log.length + 1) w' := by
  have e0 : tK b sb k = tW b sb (wsk k) := if_pos hk
  rw [e0] at h
  obtain ⟨y, hy⟩ : ∃ y, ([2, 0, 0, 0, 0, 0] : List Int)[(wsk k).pos]? = some y := by
    have : (wsk k).pos < 6 := by unfold wsk; split <;> simp; omega
    exact ⟨_, List.getElem?_eq_getElem (by simpa using this)⟩
  obtain ⟨a1, a2, a3, a4, a5, a6⟩ := wsk_step k hk y hy
  refine act_wait h 1 (tW b sb (wsk k)) b (wsk k) rfl rfl rfl 2 0 8 ((rwait_ok h 1 (tW b sb (wsk k)) b (wsk k) rfl rfl a3 a4 y hy a5 sb [1, 0, 0, 0, 0, 0] rfl (by omega) (fun _ i z m h1 _ => ?_)).mono ?_)
  · rintro ⟨-, h3, -⟩
    have : i < 6 := by simpa using lt_of_at h1
    have : i = 0 ∨ i = 1 ∨ i = 2 ∨ i = 3 ∨ i = 4 ∨ i = 5 := by omega
    rcases this with rfl | rfl | rfl | rfl | rfl | rfl <;> (simp at h1; subst h1; simp [tO, tW, z0] at h3)
  · rintro e w' ⟨rfl, hr⟩
    refine ⟨rfl, ?_⟩
    have : tK b sb (k + 1) = { tW b sb (wsk k) with wt := if 2 ≤ ((wsk k).step 6 y).st then none else some (b, (wsk k).step 6 y) } := by
      by_cases h5 : k < 5
      · rw [if_neg (by have := a6 h5; omega), a1 h5, tK, if_pos (by omega)]; rfl
      · rw [if_pos (a2 (by omega)), tK, if_neg (by omega)]; rfl
    rw [this]
    exact hr

set_option maxRecDepth 100000 in
set_option maxHeartbeats 8000000 in
theorem holds_ok (w0 : World) (hk0 : Keep Nil w0 w) : Calls Try.prog 38 #[] w fun e w' => e = .returned (.bool true) ∧ Keep Nil w0 w' := by
  have HB := hid (begin_any w0 hk0 1)
  clear hk0
  go_enter Try.func38, Try.ntmps38
  go_wp2_with fail
  refine HB.out.mono ?_
  rintro e w1 ⟨rb, g, nb, bb, mb, F, rfl, hr⟩
  have R1 := hid (show RunAt w0 w1 rb g nb bb mb F [0, 0, 0, 0, 0, 0] noBeg [z0, z0, z0, z0, z0, z0] [] from hr)
  clear hr HB
  go_wp2
  go_loopw [2] (fun i wr => (i = .int .i64 0 ∧ Hid (RunAt w0 wr rb g nb bb mb F [0, 0, 0, 0, 0, 0] noBeg [z0, z0, z0, z0, z0, z0] [])) ∨ (i = .int .i64 1 ∧ Hid (RunTo w0 rb g nb bb mb [1, 0, 0, 0, 0, 0] noBeg [tI, z0, z0, z0, z0, z0] 1 wr))) (fun i _ => 4 - (intOf i).toNat)
  case atStart => exact .inl ⟨rfl, R1⟩
  case round =>
    clear R1
    rcases hrel with ⟨rfl, R1⟩ | ⟨rfl, R1⟩
    · have c4 : wr.cell? ⟨rb, 4, none⟩ = some (.bool false) := (R1.out.cells (t := 0) rfl).2.2.1
      have HA := hid (hold1 R1.out (by simp))
      go_wp2_with fail
      refine HA.out.mono ?_
      rintro e w2 ⟨rfl, hq⟩
      have HQ := hid hq
      clear hq HA c4 R1
      go_wp2
      go_roundw
      case rel => exact .inr ⟨by go_num, HQ⟩
      case measure => simp [intOf]
    · obtain ⟨F2, log2, hr2, hl2⟩ := R1.out
      have c4 : wr.cell? ⟨rb, 4, none⟩ = some (.bool true) := (hr2.cells (t := 0) rfl).2.2.1
      have R2 := hid hr2
      clear hr2 R1
      go_wp2
      go_loopw [3] (fun i wr => ∃ k : Nat, k ≤ 40 ∧ i = .int .i64 k ∧ ((k = 0 ∧ Hid (RunTo w0 rb g nb bb mb [1, 0, 0, 0, 0, 0] noBeg [tI, z0, z0, z0, z0, z0] 1 wr)) ∨ Hid (1 ≤ k ∧ Hold2To w0 rb g nb bb mb (1 + k) wr))) (fun i _ => 40 - (intOf i).toNat)
      case atStart => exact ⟨0, by omega, rfl, .inl ⟨rfl, hid ⟨F2, log2, R2.out, hl2⟩⟩⟩
      case round =>
        obtain ⟨k, hk, rfl, hor⟩ := hrel
        clear R2 c4 hl2
        by_cases hlt : k < 40
        · have hc : ∀ wr : World, (k = 0 ∧ Hid (RunTo w0 rb g nb bb mb [1, 0, 0, 0, 0, 0] noBeg [tI, z0, z0, z0, z0, z0] 1 wr)) ∨ Hid (1 ≤ k ∧ Hold2To w0 rb g nb bb mb (1 + k) wr) → Calls Try.prog 37 #[.pointer (some ⟨rb, 0, none⟩), .int .i64 1, .int .u8 2, .int .i64 0, .int .u64 8] wr fun e w' => e = .returned (.bool true) ∧ Hold2To w0 rb g nb bb mb (1 + (k + 1)) w' := by
            intro wr hor
            rcases hor with ⟨rfl, h⟩ | h
            · obtain ⟨F3, log3, h3, l3⟩ := h.out
              refine (hold2 h3 (by omega)).mono ?_
              rintro e w' ⟨h4, b, sb, h5⟩
              exact ⟨h4, b, sb, h5.more (by omega)⟩
            · obtain ⟨-, b, sb, F3, log3, h3, l3⟩ := h.out
              refine (hold3 h3 (by omega)).mono ?_
              rintro e w' ⟨h4, b, sb, h5⟩
              exact ⟨h4, b, sb, h5.more (by omega)⟩
          have HC := hid (hc _ hor)
          clear hc hor
          go_wp2_with fail
          refine HC.out.mono ?_
          rintro e w3 ⟨rfl, b, sb, hq⟩
          obtain ⟨F4, log4, h4, -⟩ := id hq
          have c10 : w3.cell? ⟨rb, 10, none⟩ = some (.pointer (some ⟨b, 0, none⟩)) := (h4.cells (t := 1) rfl).2.1
          have HQ := hid hq
          clear hq h4 HC
          go_wp2
          go_roundw
          case rel => exact ⟨k + 1, by omega, by go_num, .inr (hid ⟨by omega, b, sb, HQ.out⟩)⟩
          case measure => simp [intOf]; omega
        · obtain rfl : k = 40 := by omega
          obtain ⟨b, sb, F3, log3, h3, l3⟩ : Hold2To w0 rb g nb bb mb 41 wr := by
            rcases hor with ⟨h, -⟩ | h
            · omega
            · exact h.out.2
          have R3 := hid h3
          have cg : wr.cell? ⟨rb, 1, none⟩ = some (.pointer (some ⟨g, 0, none⟩)) := h3.top.2
          have HE := hid (fexit_ok (t := 0) (i := 0) h3.sys 1 1 (by decide) (by decide) rfl (by decide) (by decide) (by decide) (Int.le_refl 0) (by decide) (by decide) rfl (by omega))
          clear h3 hor
          go_wp2_with fail
          refine HE.out.mono ?_
          rintro e w4 ⟨rfl, F4, hs4, hk4, hf4⟩
          have r4 := R3.out.adv (nums' := [2, 0, 0, 0, 0, 0]) (beg' := noBeg) hs4 hk4 hf4 (fun k hk _ => by
            rcases hk with hk | hk | hk
            · exact .inl hk
            · exact .inr (.inl hk)
            · exact .inr (.inr (.inl hk))) rfl rfl
          have z4 : w4.frozen? ⟨rb, 4, none⟩ = false := r4.free 4
          have c4 : w4.cell? ⟨rb, 4, none⟩ = some (.bool true) := (r4.cells (t := 0) rfl).2.2.1
          have r5 : RunAt w0 (w4.setCell ⟨rb, 4, none⟩ (.bool false)) rb g nb bb mb F4 [2, 0, 0, 0, 0, 0] noBeg [tO, tK b sb 0, z0, z0, z0, z0] _ := r4.turn (t := 0) (x := tI) rfl (j := 2) (by decide) (.bool false) (x' := tO) rfl (.inl rfl) rfl
          have R5 := hid r5
          clear r4 r5 hs4 hk4 hf4 HE R3
          go_wp2
          go_loopw [6] (fun i wr => ∃ k : Nat, k ≤ 6 ∧ i = .int .i64 k ∧ Hid (RunTo w0 rb g nb bb mb [2, 0, 0, 0, 0, 0] noBeg [tO, tK b sb k, z0, z0, z0, z0] (100 + k) wr)) (fun i _ => 40 - (intOf i).toNat)
          case atStart => exact ⟨0, by omega, rfl, hid ⟨F4, _, R5.out, by simp; omega⟩⟩
          case round =>
            obtain ⟨k, hk, rfl, HR⟩ := hrel
            clear R5 z4 c4 cg l3
            obtain ⟨F5, log5, h5, l5⟩ := HR.out
            by_cases hlt : k < 6
            · have c10 : wr.cell? ⟨rb, 10, none⟩ = some (.pointer (some ⟨b, 0, none⟩)) := by
                have := (h5.cells (t := 1) rfl).2.1
                rw [show tK b sb k = tW b sb (wsk k) from if_pos hlt] at this
                exact this
              have HC := hid (hold5 hlt h5 (by omega))
              clear h5
              go_wp2_with fail
              refine HC.out.mono ?_
              rintro e w3 ⟨rfl, hq⟩
              have HQ := hid (hq.more (n' := 100 + (k + 1)) (by omega))
              clear hq HC c10
              go_wp2
              go_roundw
              case rel => exact ⟨k + 1, by omega, by go_num, HQ⟩
              case measure => simp [intOf]; omega
            · obtain rfl : k = 6 := by omega
              have c10 : wr.cell? ⟨rb, 10, none⟩ = some (.pointer none) := (h5.cells (t := 1) rfl).2.1
              have HO := hid h5.own.1
              clear h5
              go_wp2
              go_ret
              exact ⟨rfl, HO.out⟩
end
end Go.Proofs.Ytckopbjejjeknaa
