/- layout: Initial: the walk. field.Top. -/
import Derived.Test.YtjghenomeindcaaGreatLayAt
import Derived.StillTailTactics
import Derived.Deep.RegionHeld3
set_option linter.unusedVariables false
set_option linter.unusedSimpArgs false
namespace Go.Proofs.YtjghenomeindcaaGreat
open Go.RowKit Go.Lf
section
variable {w : World} {L : Nat} {c : Cfg}
set_option maxHeartbeats 1000000 in
theorem top_ok (g t : Int) (g0 : 0 ≤ g) (g1 : g ≤ 1099511627775) (t0 : 0 ≤ t) (t1 : t ≤ 1024) : Calls Tryz.prog 78 #[.int .u64 g, .int .i64 t] w fun e w' => e = .returned (.tuple #[.int .u64 (t + 65536 * g), .int .i64 0]) ∧ w = w' := by
  have d1 : decide (1099511627775 < g) = false := decide_eq_false (by omega)
  have d2 : decide (t < 0) = false := decide_eq_false (by omega)
  have d3 : decide (1024 < t) = false := decide_eq_false (by omega)
  go_enter Tryz.func78, Tryz.ntmps78
  go_wp2
  go_ret2
  exact ⟨rfl, rfl⟩
theorem top_w (t : Int) (t0 : 0 ≤ t) (t1 : t ≤ 1024) : Calls Tryz.prog 78 #[.int .u64 0, .int .i64 (IntKind.i64.wrap t)] w fun e w' => e = .returned (.tuple #[.int .u64 t, .int .i64 0]) ∧ w = w' := by
  have e : IntKind.i64.wrap t = t := by rw [IntKind.wrap_i64]; omega
  rw [e]
  have h := top_ok (w := w) 0 t (by decide) (by decide) t0 t1
  rw [show t + 65536 * 0 = t by omega] at h
  exact h
def u64n (l : List Nat) : List Value := u64s (ints l)
theorem u64n_set (l : List Nat) (i v : Nat) : u64n (l.set i v) = (u64n l).set i (.int .u64 (v : Int)) := by simp [u64n, u64s, ints, List.map_set]
theorem u64n_len (l : List Nat) : (u64n l).length = l.length := by simp [u64n, u64s, ints]
theorem initP_len (c : Cfg) (k : Nat) : (c.initP k).length = c.words := by
  induction k with
  | zero => exact fill_len _ _
  | succ k ih => rw [Cfg.initP]; split <;> rw [List.length_set, ih]
theorem initP_succ (c : Cfg) (i : Nat) : c.initP (i + 1) = if 0 < i ∧ c.hs[i - 1]? = c.hs[i]? then (c.initP i).set (c.links + i - 1) (i + 1) else (c.initP i).set (c.pools + ((c.hs[i]?).getD 0) - 1) (i + 1) := by rw [Cfg.initP]
theorem u64n_at {l : List Nat} {i x : Nat} (h : l[i]? = some x) : (u64n l)[i]? = some (.int .u64 (x : Int)) := by simp [u64n, u64s, ints, h]
theorem initP_set (c : Cfg) (k i v : Nat) : (u64n (c.initP k)).toArray.setIfInBounds i (.int .u64 (v : Int)) = (u64n ((c.initP k).set i v)).toArray := by rw [u64n_set]; simp
theorem initP_zero (c : Cfg) : madeCells #[.int .u64 0] (c.words * 1) = (u64n (c.initP 0)).toArray := by
  rw [Cfg.initP, made_one, Nat.mul_one]
  congr 1
  apply List.ext_getElem?
  intro i
  by_cases hi : i < c.words
  · rw [u64n_at (fill_at _ hi), List.getElem?_replicate_of_lt hi]; rfl
  · rw [List.getElem?_eq_none (by simp; omega), List.getElem?_eq_none (by rw [u64n_len, fill_len]; omega)]
def InitTo (w : World) (c : Cfg) (e : Ending) (w' : World) : Prop := e = .returned (.slice (some ⟨w.heap.size, 0, none⟩) c.words c.words) ∧ w'.heap[w.heap.size]? = some (.cells (u64n c.init).toArray 54 (0, 0)) ∧ Keep Nil w w'
theorem infoU64I : (Tryz.prog.info? 54).map (fun i => (i.zero, i.size, i.bytes)) = some (some (.int .u64 0), 1, 8) := by kernel_rfl
set_option maxRecDepth 100000 in
set_option maxHeartbeats 3000000 in
theorem initial_ok (h : LayAt w L c) (hok : c.ok) (hwd : c.words ≤ 100000) : Calls Tryz.prog 30 #[.pointer (some ⟨L, 0, none⟩)] w (InitTo w c) := by
  obtain ⟨t1, t2, t3, t4, t5, t6, a, cp, g, ha, hc, ta, tc, e, ho, r1, r2, r3⟩ := h.obj
  have q5 : w.cell? ⟨L, 21, none⟩ = some (.int .i64 (c.pools : Int)) := by rw [cell_of ho]; rfl
  have q6 : w.cell? ⟨L, 22, none⟩ = some (.int .i64 (c.links : Int)) := by rw [cell_of ho]; rfl
  have q9 : w.cell? ⟨L, 25, none⟩ = some (.int .i64 (c.words : Int)) := by rw [cell_of ho]; rfl
  have qh : w.cell? ⟨L, 27, none⟩ = some (.slice ha c.nT hc) := by rw [cell_of ho]; rfl
  have HO := hid ho
  have HR := hid r2
  have HC := hid hok
  have hn := hok.nT
  clear ho r1 r2 r3 h e hok
  go_enter Tryz.func30, Tryz.ntmps30
  go_wp2_with (at_make; refine wpList_mk _ rfl _ _ 37 rfl 54 _ 1 8 Tryz.underlying37 infoU64I _ _ (c.words : Int) rfl rfl ?p0 ?p1 ?p2 ?_)
  case p0 => omega
  case p1 => omega
  case p2 => omega
  intro w1 hh hk hz
  have hrow : w1.heap[w.heap.size]? = some (.cells (u64n (c.initP 0)).toArray 54 (0, 0)) := by
    rw [hh, ← initP_zero]; simp
  have u9 : w1.cell? ⟨L, 27, none⟩ = some (.slice ha c.nT hc) := hk.cell qh (fun h => h)
  have HROW := hid hrow
  have HK := hid hk
  clear hh hk hz hrow q5 q6 q9 qh
  go_wp2
  go_loopw [19] (fun i wr => ∃ k : Nat, k ≤ c.nT ∧ i = .int .i64 k ∧ wr.heap[w.heap.size]? = some (.cells (u64n (c.initP k)).toArray 54 (0, 0)) ∧ Keep Nil w wr) (fun i _ => c.nT - (intOf i).toNat)
  case atStart => exact ⟨0, Nat.zero_le _, rfl, HROW.out, HK.out⟩
  case round =>
    obtain ⟨k, hk, rfl, hr, hkk⟩ := hrel
    have HQ := hid hr
    have HKK := hid hkk
    clear hr hkk
    by_cases hlt : k < c.nT
    · obtain ⟨x, hx⟩ : ∃ x, c.hs[k]? = some x := ⟨_, List.getElem?_eq_getElem hlt⟩
      obtain ⟨x1, x6⟩ := HC.out.hs x (List.mem_of_getElem? hx)
      obtain ⟨z, rfl⟩ : ∃ z, x = z + 1 := ⟨x - 1, by omega⟩
      have e1 := c.le1
      have e2 := c.le2
      have e3 := c.le3
      have ho' := HKK.out.at HO.out (fun h => h)
      have hLz : L < w.heap.size := lt_of_block HO.out
      have hLn : L ≠ w.heap.size := by omega
      have hLm : w.heap.size ≠ L := by omega
      have q5 : wr.cell? ⟨L, 21, none⟩ = some (.int .i64 (c.pools : Int)) := by rw [cell_of ho']; rfl
      have q6 : wr.cell? ⟨L, 22, none⟩ = some (.int .i64 (c.links : Int)) := by rw [cell_of ho']; rfl
      have qh : wr.cell? ⟨L, 27, none⟩ = some (.slice ha c.nT hc) := by rw [cell_of ho']; rfl
      obtain ⟨bb, off, cc, hv, hcell⟩ := Rd.cell (rd_keep HR.out HKK.out (fun _ _ h => h)) (by omega)
      simp only [Value.slice.injEq] at hv
      obtain ⟨rfl, -, rfl⟩ := hv
      have cx := hcell k _ (nums_at hx)
      have HCELL := hid hcell
      have hfz : ∀ i, wr.frozen? ⟨w.heap.size, i, none⟩ = false := fun i => free_of HQ.out i
      have hcz : ∀ i, i < c.words → ∃ u, wr.cell? ⟨w.heap.size, i, none⟩ = some u := fun i hi => by
        rw [cell_of HQ.out]
        exact ⟨_, by simpa using u64n_at (List.getElem?_eq_getElem (show i < (c.initP k).length by rw [initP_len]; exact hi))⟩
      have HFZ := hid hfz
      have HCZ := hid hcz
      clear ho' hcell hfz hcz
      cases k with
      | zero =>
        rw [Nat.add_zero] at cx
        have hjw : c.pools + z < c.words := by omega
        have HI := hid (show c.initP (0 + 1) = (c.initP (0)).set (c.pools + z) (0 + 1) by rw [initP_succ, if_neg (fun h => absurd h.1 (Nat.lt_irrefl 0)), hx]; rfl)
        obtain ⟨u, cz⟩ := HCZ.out _ hjw
        have fz := HFZ.out (c.pools + z)
        have hw1 : IntKind.i64.wrap ((c.pools : Int) + ((z : Int) + 1)) = (c.pools : Int) + ((z : Int) + 1) := by rw [IntKind.wrap_i64]; omega
        have hw2 : IntKind.i64.wrap ((c.pools : Int) + ((z : Int) + 1) - 1) = ((c.pools + z : Nat) : Int) := by rw [IntKind.wrap_i64]; omega
        have hb0 : (c.pools : Int) + (z : Int) < (c.words : Int) := by omega
        have hb00 : (0 : Int) ≤ (c.pools : Int) + (z : Int) := by omega
        have htn : ((c.pools : Int) + (z : Int)).toNat = c.pools + z := by omega
        have hb1 : ((c.pools + z : Nat) : Int) < (c.words : Int) := by omega
        clear e1 e2 e3
        go_wp2
        go_region_held3 (fun w' => w'.cell? ⟨L, 21, none⟩ = some (.int .i64 (c.pools : Int))) (go_keep)
          (first | (go_at_call 78; (with_reducible refine (top_w _ (by omega) (by omega)).mono ?_); rintro e w' ⟨rfl, rfl⟩))
        go_wp2
        go_roundw
        case rel => exact ⟨0 + 1, by omega, by go_num, by rw [HI.out, ← initP_set]; exact set_same HQ.out _, (Keep.setCell HKK.out (.inr (Nat.le_refl _)) _).drew⟩
        case measure => simp [intOf]; omega
      | succ m =>
        obtain ⟨y, hy⟩ : ∃ y, c.hs[m]? = some y := ⟨_, List.getElem?_eq_getElem (by have : c.nT = c.hs.length := rfl; omega)⟩
        have cy := HCELL.out m _ (nums_at hy)
        have p0 : decide (0 < ((m : Int) + 1)) = true := decide_eq_true (by omega)
        by_cases hyx : y = z + 1
        · have he : ((y : Int) == ((z : Int) + 1)) = true := beq_iff_eq.2 (by omega)
          have hjw : c.links + m < c.words := by have : c.nT = c.hs.length := rfl; omega
          have HI := hid (show c.initP (m + 1 + 1) = (c.initP (m + 1)).set (c.links + m) (m + 1 + 1) by rw [initP_succ, if_pos ⟨by omega, by rw [Nat.add_sub_cancel, hy, hx, hyx]⟩]; rfl)
          obtain ⟨u, cz⟩ := HCZ.out _ hjw
          have fz := HFZ.out (c.links + m)
          clear hyx e1 e2 e3
          go_wp2
          go_roundw
          case rel => exact ⟨m + 1 + 1, by omega, by go_num, by rw [HI.out, ← initP_set]; exact set_same HQ.out _, Keep.setCell HKK.out (.inr (Nat.le_refl _)) _⟩
          case measure => simp [intOf]; omega
        · have he : ((y : Int) == ((z : Int) + 1)) = false := beq_eq_false_iff_ne.2 (by omega)
          have hjw : c.pools + z < c.words := by omega
          have HI := hid (show c.initP (m + 1 + 1) = (c.initP (m + 1)).set (c.pools + z) (m + 1 + 1) by rw [initP_succ, if_neg (fun h => hyx (by have h2 := h.2; rw [Nat.add_sub_cancel, hy, hx] at h2; exact Option.some.inj h2)), hx]; rfl)
          obtain ⟨u, cz⟩ := HCZ.out _ hjw
          have fz := HFZ.out (c.pools + z)
          have hw1 : IntKind.i64.wrap ((c.pools : Int) + ((z : Int) + 1)) = (c.pools : Int) + ((z : Int) + 1) := by rw [IntKind.wrap_i64]; omega
          have hw2 : IntKind.i64.wrap ((c.pools : Int) + ((z : Int) + 1) - 1) = ((c.pools + z : Nat) : Int) := by rw [IntKind.wrap_i64]; omega
          have hb0 : (c.pools : Int) + (z : Int) < (c.words : Int) := by omega
          have hb00 : (0 : Int) ≤ (c.pools : Int) + (z : Int) := by omega
          have htn : ((c.pools : Int) + (z : Int)).toNat = c.pools + z := by omega
          have hb1 : ((c.pools + z : Nat) : Int) < (c.words : Int) := by omega
          clear e1 e2 e3
          go_wp2
          go_region_held3 (fun w' => w'.cell? ⟨L, 21, none⟩ = some (.int .i64 (c.pools : Int))) (go_keep)
            (first | (go_at_call 78; (with_reducible refine (top_w _ (by omega) (by omega)).mono ?_); rintro e w' ⟨rfl, rfl⟩))
          go_wp2
          go_roundw
          case rel => exact ⟨m + 1 + 1, by omega, by go_num, by rw [HI.out, ← initP_set]; exact set_same HQ.out _, (Keep.setCell HKK.out (.inr (Nat.le_refl _)) _).drew⟩
          case measure => simp [intOf]; omega
    · have hkn : k = c.nT := by omega
      subst hkn
      go_wp2
      go_ret
      refine ⟨rfl, ?_, HKK.out⟩
      rw [HQ.out, c.initP_all HC.out]
end
end Go.Proofs.YtjghenomeindcaaGreat
