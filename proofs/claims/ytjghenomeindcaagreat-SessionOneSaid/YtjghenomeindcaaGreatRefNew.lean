/- leapfrogref08: New and Log: contracts. -/
import Derived.Test.YtjghenomeindcaaGreatRefOps
import Derived.Test.YtjghenomeindcaaGreatKit
namespace Go.Proofs.YtjghenomeindcaaGreat
open Go.RowKit Go.Lf

def RNewTo (w : World) (ws : List Int) (e : Ending) (w' : World) : Prop :=
  ∃ b F, e = .returned (.tuple #[.pointer (some ⟨b, 0, none⟩), .int .i64 0]) ∧ RefAt w' b F ws [] ∧ Keep Nil w w' ∧ Foot w Nil F

set_option maxHeartbeats 400000 in
theorem rnew_err (a : Option Addr) (n c : Nat) (w : World) (hn : n = 0 ∨ 65536 < n) (hm : n ≤ maxLen) :
    Calls Tryz.prog 31 #[.slice a n c] w fun e w' => e = .returned (.tuple #[.pointer none, .int .i64 (szErr n)]) ∧ w = w' := by
  unfold maxLen at hm
  rcases hn with rfl | hn
  · rw [szErr_zero (by omega)]
    go_enter Tryz.func31, Tryz.ntmps31
    go_wp2
    go_ret2
    exact ⟨rfl, rfl⟩
  · rw [szErr_big (by omega)]
    have h1 : ((n : Int) == 0) = false := by simp; omega
    have h2 : 65536 < (n : Int) := by omega
    clear hn
    go_enter Tryz.func31, Tryz.ntmps31
    go_wp2
    go_ret2
    exact ⟨rfl, rfl⟩

set_option maxHeartbeats 1000000 in
theorem rnew_ok (v : Value) (ws : List Int) (w : World) (hrd : Rd w 1 v ws.length (u64s ws)) (h0 : 0 < ws.length) (h1 : ws.length ≤ 65536) :
    Calls Tryz.prog 31 #[v] w (RNewTo w ws) := by
  obtain ⟨b, off, c, rfl, hc⟩ := Rd.cell hrd h0
  have g1 : ((ws.length : Int) == 0) = false := beq_eq_false_iff_ne.2 (by omega)
  have HC := hid hc
  have HRD := hid hrd
  clear hc hrd
  go_enter Tryz.func31, Tryz.ntmps31
  go_wp2_with (at_builtin; refine wpList_app _ rfl (.tmp 10) (.tmp 11) 37 rfl 54 _ 1 8 Tryz.underlying37 infoU64 rfl (by decide) (.slice (some ⟨w.heap.size, 0, none⟩) 0 0) 0 [] rfl ?own (.slice (some ⟨b, off, none⟩) ws.length c) ws.length (u64s ws) rfl ?rd ?one ?byt ?len ?_)
  case own => exact ⟨rfl, .inr ⟨_, 0, #[], rfl, Nat.zero_le _, heap_alloc_new w _, Nat.le_refl _, Nat.zero_le _, rfl, rfl⟩⟩
  case rd => exact rd_keep HRD.out (Keep.alloc (Keep.refl Nil _) _) (fun _ _ h => h)
  case one => exact u64s_one _
  case byt => omega
  case len => unfold maxLen; omega
  intro a' c' w1 ho hg hs
  obtain ⟨g, rfl⟩ : ∃ g, a' = some ⟨g, 0, none⟩ := by
    rcases ho.2 with ⟨_, hz⟩ | ⟨g, cap, cur, hv, _⟩
    · omega
    · simp only [Value.slice.injEq] at hv; exact ⟨g, hv.1⟩
  have hgz : w.heap.size ≤ g := by
    rcases hs g rfl with h | h
    · simp [Value.ownBlock] at h; omega
    · simp at h; omega
  have HO := hid ho
  have HG := hid hg
  clear ho hg hs
  go_wp2
  go_ret2
  have k1 : Keep Nil w w1 := Keep.grown (Keep.alloc (Keep.refl _ _) _) HG.out (fun j hj => .inr (by simp [Value.ownBlock] at hj; omega))
  have hlt := HO.out.lt g rfl
  refine ⟨w1.heap.size, fun j => j = w1.heap.size ∨ j = g, rfl, ⟨g, c', none, 0, ⟨heap_alloc_new _ _, HO.out.alloc _, World.ownsRow_nil _ _ _ _, by omega, by simp [Value.ownBlock], by simp [Value.ownBlock]⟩, fun j => by simp [Value.ownBlock]⟩, k1.alloc _, fun j hj => .inr ?_⟩
  have := k1.size
  rcases hj with rfl | rfl <;> omega

section
variable {b : Nat} {F : Nat → Prop} {ws : List Int} {log : List Acc} {w : World}

theorem rlog_cells (h : RefAt w b F ws log) : ∃ la lc, w.cell? ⟨b, 1, none⟩ = some (.slice la log.length lc) ∧ log.length ≤ lc ∧ (0 < log.length → ∃ g, la = some ⟨g, 0, none⟩ ∧ ∀ j u, (logCells log)[j]? = some u → w.cell? ⟨g, j, none⟩ = some u) ∧ Rd w 6 (.slice la log.length lc) log.length (logCells log) := by
  obtain ⟨gw, wc, la, lc, hr, hF⟩ := h.rep
  refine ⟨la, lc, hr.cell1, ?_, ?_, row_rd hr.lrow⟩
  · rcases hr.lrow.2 with ⟨hv, h0⟩ | ⟨g', cap, cur, hv, _, _, hle, _⟩
    · omega
    · simp only [Value.slice.injEq] at hv; omega
  · intro h0
    rcases hr.lrow.2 with ⟨_, h0⟩ | ⟨g, cap, cur, hv, _⟩
    · omega
    · simp only [Value.slice.injEq] at hv
      obtain ⟨rfl, -, rfl⟩ := hv
      refine ⟨g, rfl, fun j u hu => ?_⟩
      rw [← hu]
      exact hr.lrow.cellAt j (by have := lt_of_at hu; rw [length_logCells] at this; exact this)
end
end Go.Proofs.YtjghenomeindcaaGreat
