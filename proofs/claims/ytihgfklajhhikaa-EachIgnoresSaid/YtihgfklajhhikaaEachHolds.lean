/- each: holds. -/
import Derived.Test.YtihgfklajhhikaaEachPlay
import Derived.LaidEqlPtr
namespace Go.Lf
open Go.Proofs.Ytihgfklajhhikaa
def tM (eb : Nat) : ET := ⟨none, false, 3, 0, 0, none, some (eb, 1)⟩
def tI : ET := ⟨none, true, 3, 1, 0, none, none⟩
def tO : ET := ⟨none, false, 3, 1, 0, none, none⟩
def tW (b qb : Nat) (s : EWS) : ET := ⟨some (b, s), false, 0, 0, 8, some (qb, [1, 0, 0, 0, 0, 0]), none⟩
def tE (qb : Nat) : ET := ⟨none, false, 0, 0, 8, some (qb, [1, 0, 0, 0, 0, 0]), none⟩
/-- The sequence words and the slots at the first word x, its mark m, its begun b. -/
def hs (x : Int) (b : Bool) : List (Int × Bool) := [(x, b), (0, false), (0, false), (0, false), (0, false), (0, false)]
def hw (x m : Int) : List Int := [x, m, 0, 0, 0, 0, 0, 0, 0, 0, 0, 0]
def hw1 (k : Nat) : EWS := if k = 1 then ⟨0, 1, 1⟩ else ⟨0, 2, 1⟩
def wsk (k : Nat) : EWS := if k = 0 then ⟨0, 2, 1⟩ else if k = 1 then ⟨1, 0, 1⟩ else ⟨k, 0, 0⟩
/-- The second thread after k steps behind the section. -/
def tK (b qb k : Nat) : ET := if k < 6 then tW b qb (wsk k) else tE qb
theorem hw1_step (k : Nat) (h : 1 ≤ k) : ∃ y, (hw 1 3)[(hw1 k).addr]? = some y ∧ (hw1 k).step 6 8 y = hw1 (k + 1) ∧ (hw1 k).st < 3 ∧ (hw1 k).pos < 6 ∧ 0 ≤ y ∧ y < 64 ∧ ((hw1 k).step 6 8 y).st ≠ 3 := by
  by_cases e : k = 1
  · subst e; exact ⟨3, rfl, rfl, by decide, by decide, by decide, by decide, by decide⟩
  · have e1 : hw1 k = ⟨0, 2, 1⟩ := by unfold hw1; rw [if_neg e]
    have e2 : hw1 (k + 1) = ⟨0, 2, 1⟩ := by unfold hw1; rw [if_neg (by omega)]
    rw [e1, e2]
    exact ⟨1, rfl, rfl, by decide, by decide, by decide, by decide, by decide⟩
theorem wsk_step (k : Nat) (h : k < 6) : ∃ y, (hw 2 3)[(wsk k).addr]? = some y ∧ (k < 5 → (wsk k).step 6 8 y = wsk (k + 1)) ∧ (k = 5 → ((wsk k).step 6 8 y).st = 3) ∧ (wsk k).st < 3 ∧ (wsk k).pos < 6 ∧ 0 ≤ y ∧ y < 64 ∧ (k < 5 → ((wsk k).step 6 8 y).st ≠ 3) := by
  have : k = 0 ∨ k = 1 ∨ k = 2 ∨ k = 3 ∨ k = 4 ∨ k = 5 := by omega
  rcases this with rfl | rfl | rfl | rfl | rfl | rfl
  · exact ⟨2, rfl, fun _ => rfl, fun h => by omega, by decide, by decide, by decide, by decide, fun _ => by decide⟩
  all_goals exact ⟨0, rfl, fun h => by first | rfl | omega, fun h => by first | rfl | omega, by decide, by decide, by decide, by decide, fun h => by first | decide | omega⟩
end Go.Lf
namespace Go.Proofs.Ytihgfklajhhikaa
open Go.RowKit Go.Lf
section
variable {w wr : World} {rb g sb cb mb : Nat} {F : Nat → Prop} {log : List Acc}
theorem ERunTo.more {sl : List (Int × Bool)} {ws : List Int} {th : List ET} {n n' : Nat} {w' : World} (h : ERunTo w rb g sb cb mb sl ws th n w') (hn : n ≤ n') : ERunTo w rb g sb cb mb sl ws th n' w' := by
  obtain ⟨F', log', h1, h2⟩ := h
  exact ⟨F', log', h1, by omega⟩
def Hold0To (w : World) (rb g sb cb mb n : Nat) (w' : World) : Prop := ∃ eb, ERunTo w rb g sb cb mb (hs 0 true) (hw 0 3) [tM eb, z0, z0, z0, z0, z0] n w'
theorem hold0 (h : ERunAt w wr rb g sb cb mb F (hs 0 false) (hw 0 0) [z0, z0, z0, z0, z0, z0] log) (hlog : log.length < 1000) :
    Calls Try.prog 30 #[.pointer (some ⟨rb, 0, none⟩), .int .i64 0, .int .u8 0, .int .i64 3, .int .u64 1] wr fun e w' => e = .returned (.bool true) ∧ Hold0To w rb g sb cb mb (log.length + 1) w' :=
  eact_enter h 0 z0 rfl rfl rfl rfl 0 3 1 (by decide) (by decide) (by decide) (by decide) 0 rfl (by decide) (by decide) (by omega)
theorem hold1 {eb : Nat} (h : ERunAt w wr rb g sb cb mb F (hs 0 true) (hw 0 3) [tM eb, z0, z0, z0, z0, z0] log) (hlog : log.length < 1000) :
    Calls Try.prog 30 #[.pointer (some ⟨rb, 0, none⟩), .int .i64 0, .int .u8 0, .int .i64 3, .int .u64 1] wr fun e w' => e = .returned (.bool true) ∧ ERunTo w rb g sb cb mb (hs 1 false) (hw 1 3) [tI, z0, z0, z0, z0, z0] (log.length + 1) w' :=
  eact_en h 0 (tM eb) eb 1 rfl rfl 0 3 1 (erenter_seq h 0 (tM eb) eb rfl rfl 0 true rfl (by decide) (by decide) (by omega) (by simp [tM]) (by simp [tM]))
def Hold2To (w : World) (rb g sb cb mb k n : Nat) (w' : World) : Prop := ∃ b qb, ERunTo w rb g sb cb mb (hs 1 false) (hw 1 3) [tI, tW b qb (hw1 k), z0, z0, z0, z0] n w'
theorem hold2 (h : ERunAt w wr rb g sb cb mb F (hs 1 false) (hw 1 3) [tI, z0, z0, z0, z0, z0] log) (hlog : log.length < 1000) :
    Calls Try.prog 30 #[.pointer (some ⟨rb, 0, none⟩), .int .i64 1, .int .u8 2, .int .i64 0, .int .u64 8] wr fun e w' => e = .returned (.bool true) ∧ Hold2To w rb g sb cb mb 1 (log.length + 1) w' :=
  eact_begin h 1 z0 rfl rfl rfl rfl 2 0 8 (by decide) (by decide) (by decide) (by decide) 1 rfl (by decide) (by omega) (fun j z hz => by
    have : j < 6 := by simpa using lt_of_at hz
    have : j = 0 ∨ j = 1 ∨ j = 2 ∨ j = 3 ∨ j = 4 ∨ j = 5 := by omega
    rcases this with rfl | rfl | rfl | rfl | rfl | rfl <;> (simp at hz; subst hz; simp [tI, z0]))
theorem hold3 {b qb k : Nat} (hk : 1 ≤ k) (h : ERunAt w wr rb g sb cb mb F (hs 1 false) (hw 1 3) [tI, tW b qb (hw1 k), z0, z0, z0, z0] log) (hlog : log.length < 1000) :
    Calls Try.prog 30 #[.pointer (some ⟨rb, 0, none⟩), .int .i64 1, .int .u8 2, .int .i64 0, .int .u64 8] wr fun e w' => e = .returned (.bool true) ∧ Hold2To w rb g sb cb mb (k + 1) (log.length + 1) w' := by
  obtain ⟨y, a0, a1, a2, a3, a4, a5, a6⟩ := hw1_step k hk
  refine eact_wait h 1 (tW b qb (hw1 k)) b (hw1 k) rfl rfl rfl 2 0 8 ((erwait_ok h 1 (tW b qb (hw1 k)) b (hw1 k) rfl rfl a2 a3 y a0 a4 (fun _ => a5) qb [1, 0, 0, 0, 0, 0] rfl (by omega) (by simp [tW]) (by simp [tW]) (fun he => absurd he a6)).mono ?_)
  rintro e w' ⟨rfl, hr⟩
  rw [show (tW b qb (hw1 k)).set = 8 from rfl, if_neg a6, a1] at hr
  exact ⟨rfl, b, qb, hr⟩
theorem hold5 {b qb k : Nat} (hk : k < 6) (h : ERunAt w wr rb g sb cb mb F (hs 2 false) (hw 2 3) [tO, tK b qb k, z0, z0, z0, z0] log) (hlog : log.length < 1000) :
    Calls Try.prog 30 #[.pointer (some ⟨rb, 0, none⟩), .int .i64 1, .int .u8 2, .int .i64 0, .int .u64 8] wr fun e w' => e = .returned (.bool true) ∧ ERunTo w rb g sb cb mb (hs 2 false) (hw 2 3) [tO, tK b qb (k + 1), z0, z0, z0, z0] (log.length + 1) w' := by
  have e0 : tK b qb k = tW b qb (wsk k) := if_pos hk
  rw [e0] at h
  obtain ⟨y, hy, a1, a2, a3, a4, a5, a6, a7⟩ := wsk_step k hk
  refine eact_wait h 1 (tW b qb (wsk k)) b (wsk k) rfl rfl rfl 2 0 8 ((erwait_ok h 1 (tW b qb (wsk k)) b (wsk k) rfl rfl a3 a4 y hy a5 (fun _ => a6) qb [1, 0, 0, 0, 0, 0] rfl (by omega) (by simp [tW]) (by simp [tW]) (fun _ i z m h1 _ => ?_)).mono ?_)
  · rintro ⟨-, h3, -⟩
    have : i < 6 := by simpa using lt_of_at h1
    have : i = 0 ∨ i = 1 ∨ i = 2 ∨ i = 3 ∨ i = 4 ∨ i = 5 := by omega
    rcases this with rfl | rfl | rfl | rfl | rfl | rfl <;> (simp at h1; subst h1; simp [tO, tW, z0] at h3)
  · rintro e w' ⟨rfl, hr⟩
    refine ⟨rfl, ?_⟩
    have : tK b qb (k + 1) = { tW b qb (wsk k) with wt := if ((wsk k).step 6 8 y).st = 3 then none else some (b, (wsk k).step 6 8 y) } := by
      by_cases h5 : k < 5
      · rw [if_neg (a7 h5), a1 h5, tK, if_pos (by omega)]; rfl
      · rw [if_pos (a2 (by omega)), tK, if_neg (by omega)]; rfl
    rw [this]
    exact hr

set_option maxRecDepth 100000 in
set_option maxHeartbeats 8000000 in
theorem holds_ok (w0 : World) (hk0 : Keep Nil w0 w) : Calls Try.prog 31 #[] w fun e w' => e = .returned (.bool true) ∧ Keep Nil w0 w' := by
  have HB := hid (ebegin_any w0 hk0 1)
  clear hk0
  go_enter Try.func31, Try.ntmps31
  go_wp2_with fail
  refine HB.out.mono ?_
  rintro e w1 ⟨rb, g, sb, cb, mb, F, rfl, hr⟩
  have R1 := hid (show ERunAt w0 w1 rb g sb cb mb F (hs 0 false) (hw 0 0) [z0, z0, z0, z0, z0, z0] [] from hr)
  clear hr HB
  go_wp2
  go_loopw [2] (fun i wr => (i = .int .i64 0 ∧ Hid (ERunAt w0 wr rb g sb cb mb F (hs 0 false) (hw 0 0) [z0, z0, z0, z0, z0, z0] [])) ∨ (i = .int .i64 1 ∧ Hid (Hold0To w0 rb g sb cb mb 1 wr)) ∨ (i = .int .i64 2 ∧ Hid (ERunTo w0 rb g sb cb mb (hs 1 false) (hw 1 3) [tI, z0, z0, z0, z0, z0] 2 wr))) (fun i _ => 4 - (intOf i).toNat)
  case atStart => exact .inl ⟨rfl, R1⟩
  case round =>
    clear R1
    rcases hrel with ⟨rfl, R1⟩ | ⟨rfl, R1⟩ | ⟨rfl, R1⟩
    · have c4 : wr.cell? ⟨rb, 4, none⟩ = some (.bool false) := (R1.out.cells (t := 0) rfl).2.2.1
      have HA := hid (hold0 R1.out (by simp))
      go_wp2_with fail
      refine HA.out.mono ?_
      rintro e w2 ⟨rfl, hq⟩
      have HQ := hid hq
      clear hq HA c4 R1
      go_wp2
      go_roundw
      case rel => exact .inr (.inl ⟨by go_num, HQ⟩)
      case measure => simp [intOf]
    · obtain ⟨eb, F2, log2, hr2, hl2⟩ := R1.out
      have c4 : wr.cell? ⟨rb, 4, none⟩ = some (.bool false) := (hr2.cells (t := 0) rfl).2.2.1
      have HA := hid (hold1 hr2 (by omega))
      clear hr2 R1
      go_wp2_with fail
      refine HA.out.mono ?_
      rintro e w2 ⟨rfl, hq⟩
      have HQ := hid (hq.more (n' := 2) (by omega))
      clear hq HA c4
      go_wp2
      go_roundw
      case rel => exact .inr (.inr ⟨by go_num, HQ⟩)
      case measure => first | (simp [intOf]; done) | (simp [intOf]; omega)
    · obtain ⟨F2, log2, hr2, hl2⟩ := R1.out
      have c4 : wr.cell? ⟨rb, 4, none⟩ = some (.bool true) := (hr2.cells (t := 0) rfl).2.2.1
      have R2 := hid hr2
      clear hr2 R1
      go_wp2
      go_loopw [3] (fun i wr => ∃ k : Nat, k ≤ 40 ∧ i = .int .i64 k ∧ ((k = 0 ∧ Hid (ERunTo w0 rb g sb cb mb (hs 1 false) (hw 1 3) [tI, z0, z0, z0, z0, z0] 2 wr)) ∨ Hid (1 ≤ k ∧ Hold2To w0 rb g sb cb mb k (2 + k) wr))) (fun i _ => 40 - (intOf i).toNat)
      case atStart => exact ⟨0, by omega, rfl, .inl ⟨rfl, hid ⟨F2, log2, R2.out, hl2⟩⟩⟩
      case round =>
        obtain ⟨k, hk, rfl, hor⟩ := hrel
        clear R2 c4 hl2
        by_cases hlt : k < 40
        · have hc : ∀ wr : World, (k = 0 ∧ Hid (ERunTo w0 rb g sb cb mb (hs 1 false) (hw 1 3) [tI, z0, z0, z0, z0, z0] 2 wr)) ∨ Hid (1 ≤ k ∧ Hold2To w0 rb g sb cb mb k (2 + k) wr) → Calls Try.prog 30 #[.pointer (some ⟨rb, 0, none⟩), .int .i64 1, .int .u8 2, .int .i64 0, .int .u64 8] wr fun e w' => e = .returned (.bool true) ∧ Hold2To w0 rb g sb cb mb (k + 1) (2 + (k + 1)) w' := by
            intro wr hor
            rcases hor with ⟨rfl, h⟩ | h
            · obtain ⟨F3, log3, h3, l3⟩ := h.out
              refine (hold2 h3 (by omega)).mono ?_
              rintro e w' ⟨h4, b, qb, h5⟩
              exact ⟨h4, b, qb, h5.more (by omega)⟩
            · obtain ⟨h1k, b, qb, F3, log3, h3, l3⟩ := h.out
              refine (hold3 h1k h3 (by omega)).mono ?_
              rintro e w' ⟨h4, b, qb, h5⟩
              exact ⟨h4, b, qb, h5.more (by omega)⟩
          have HC := hid (hc _ hor)
          clear hc hor
          go_wp2_with fail
          refine HC.out.mono ?_
          rintro e w3 ⟨rfl, b, qb, hq⟩
          obtain ⟨F4, log4, h4, -⟩ := id hq
          have c10 : w3.cell? ⟨rb, 10, none⟩ = some (.pointer (some ⟨b, 0, none⟩)) := (h4.cells (t := 1) rfl).2.1
          have HQ := hid hq
          clear hq h4 HC
          go_wp2
          go_roundw
          case rel => exact ⟨k + 1, by omega, by go_num, .inr (hid ⟨by omega, b, qb, HQ.out⟩)⟩
          case measure => simp [intOf]; omega
        · obtain rfl : k = 40 := by omega
          obtain ⟨b, qb, F3, log3, h3, l3⟩ : Hold2To w0 rb g sb cb mb 40 42 wr := by
            rcases hor with ⟨h, -⟩ | h
            · omega
            · exact h.out.2
          have R3 := hid h3
          have cg : wr.cell? ⟨rb, 1, none⟩ = some (.pointer (some ⟨g, 0, none⟩)) := h3.top.2
          have HE := hid (eexit_ok (t := 0) (i := 0) h3.sys 1 1 false (by decide) (by decide) rfl (by decide) (by decide) (by decide) (Int.le_refl 0) (by decide) (by decide) rfl (by omega))
          clear h3 hor
          go_wp2_with fail
          refine HE.out.mono ?_
          rintro e w4 ⟨rfl, F4, hs4, hk4, hf4⟩
          have r4 := R3.out.adv (sl' := hs 2 false) (ws' := hw 2 3) hs4 hk4 hf4 (fun k hk _ => hk) rfl rfl
          have z4 : w4.frozen? ⟨rb, 4, none⟩ = false := r4.free 4
          have c4 : w4.cell? ⟨rb, 4, none⟩ = some (.bool true) := (r4.cells (t := 0) rfl).2.2.1
          have r5 : ERunAt w0 (w4.setCell ⟨rb, 4, none⟩ (.bool false)) rb g sb cb mb F4 (hs 2 false) (hw 2 3) [tO, tK b qb 0, z0, z0, z0, z0] _ := r4.turn (t := 0) (x := tI) rfl (j := 2) (by decide) (.bool false) (x' := tO) rfl (.inl ⟨rfl, rfl⟩) (.inl ⟨rfl, rfl⟩) rfl
          have R5 := hid r5
          clear r4 r5 hs4 hk4 hf4 HE R3
          go_wp2
          go_loopw [6] (fun i wr => ∃ k : Nat, k ≤ 6 ∧ i = .int .i64 k ∧ Hid (ERunTo w0 rb g sb cb mb (hs 2 false) (hw 2 3) [tO, tK b qb k, z0, z0, z0, z0] (100 + k) wr)) (fun i _ => 40 - (intOf i).toNat)
          case atStart => exact ⟨0, by omega, rfl, hid ⟨F4, _, R5.out, by simp; omega⟩⟩
          case round =>
            obtain ⟨k, hk, rfl, HR⟩ := hrel
            clear R5 z4 c4 cg l3
            obtain ⟨F5, log5, h5, l5⟩ := HR.out
            by_cases hlt : k < 6
            · have c10 : wr.cell? ⟨rb, 10, none⟩ = some (.pointer (some ⟨b, 0, none⟩)) := by
                have := (h5.cells (t := 1) rfl).2.1
                rw [show tK b qb k = tW b qb (wsk k) from if_pos hlt] at this
                exact this
              have HC := hid (hold5 hlt h5 (by omega))
              clear h5
              go_wp2_with fail
              refine HC.out.mono ?_
              rintro e w3 ⟨rfl, hq⟩
              have HQ := hid (hq.more (n' := 100 + (k + 1)) (by omega))
              clear hq HC c10
              go_wp2
              go_roundw
              case rel => exact ⟨k + 1, by omega, by go_num, HQ⟩
              case measure => simp [intOf]; omega
            · obtain rfl : k = 6 := by omega
              have c10 : wr.cell? ⟨rb, 10, none⟩ = some (.pointer none) := (h5.cells (t := 1) rfl).2.1
              have HO := hid h5.own.1
              clear h5
              go_wp2
              go_ret
              exact ⟨rfl, HO.out⟩
end
end Go.Proofs.Ytihgfklajhhikaa
