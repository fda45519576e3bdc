/- Rigs.made. -/
import Derived.Test.YtldjlcdccnnogaaGreatRigW
set_option linter.unusedVariables false
set_option linter.unusedSimpArgs false
namespace Go.Proofs.YtldjlcdccnnogaaGreat
open Go.RowKit Go.Lf
section
variable {w : World}
/-- A rig that was made. -/
def MadeTo (w : World) (n : Nat) (e : Ending) (w' : World) : Prop :=
  ∃ (kd : Int) (nb : Nat) (E : PrW n) (C : RgC) (A : Nat → Prop) (s : RgS), (kd = 1 ∨ kd = 2 ∨ kd = 3) ∧ 1 ≤ nb ∧ nb ≤ 4 ∧ E.kind = kd ∧ EngIs nb E ∧ e = .returned (.tuple #[pb C.m, .int .u8 kd, .int .i64 (engBk kd nb)]) ∧ (RigL E C).lie w' A s ∧ RgG n E.bnd s ∧ s.st = 0 ∧ s.l = [] ∧ Keep Nil w w' ∧ ∀ k, A k → w.heap.size ≤ k
set_option maxRecDepth 100000 in
set_option maxHeartbeats 1000000 in
theorem made_ok (z : RigsV) (hz : RigsArg w z) (most : Nat) (hs : rShort z most = true) : Calls Tryz.prog 6 #[z.val] w (MadeTo w z.ps.length) := by
  obtain ⟨pa, pc, hv, -⟩ := id hz.rp
  obtain ⟨ka, kc, hv2, -⟩ := id hz.rk
  obtain ⟨kind, bk, pv, ps, kv, picks⟩ := z
  simp only at hv hv2
  subst hv hv2
  unfold rShort at hs
  simp only [Bool.and_eq_true, decide_eq_true_eq, List.all_eq_true] at hs
  obtain ⟨⟨s1, s2, -⟩, s4⟩ := hs
  have HRD := hid hz.rp
  have HW := hid hz.ps
  obtain ⟨k0, k1⟩ := hz.k
  obtain ⟨b0, b1⟩ := hz.b
  simp only at HRD HW k0 k1 b0 b1
  clear hz
  have hr1 : 0 ≤ kind % 3 ∧ kind % 3 < 3 := ⟨Int.emod_nonneg _ (by decide), Int.emod_lt_of_pos _ (by decide)⟩
  have hr2 : 0 ≤ bk % 4 ∧ bk % 4 < 4 := ⟨Int.emod_nonneg _ (by decide), Int.emod_lt_of_pos _ (by decide)⟩
  have t1 : kind.tmod 3 = kind % 3 := Int.tmod_eq_emod_of_nonneg k0
  have t2 : bk.tmod 4 = bk % 4 := Int.tmod_eq_emod_of_nonneg b0
  generalize hkr : kind % 3 = kr at *
  generalize hbr : bk % 4 = br at *
  have w1 : IntKind.u8.wrap (1 + kr) = 1 + kr := by rw [IntKind.wrap_u8]; omega
  have w2 : IntKind.u8.wrap kr = kr := by rw [IntKind.wrap_u8]; omega
  have w3 : IntKind.u8.wrap br = br := by rw [IntKind.wrap_u8]; omega
  have w4 : IntKind.i64.wrap br = br := by rw [IntKind.wrap_i64]; omega
  have w5 : IntKind.i64.wrap (1 + br) = 1 + br := by rw [IntKind.wrap_i64]; omega
  have H0 : Keep Nil w (w.alloc (.cells #[.int .u8 kind, .int .u8 bk, .slice pa ps.length pc, .slice ka picks.length kc] 25 (0, 0))) := (Keep.refl _ _).alloc _
  have o0 := heap_alloc_new w (.cells #[.int .u8 kind, .int .u8 bk, .slice pa ps.length pc, .slice ka picks.length kc] 25 (0, 0))
  have x0 : (w.alloc (.cells #[.int .u8 kind, .int .u8 bk, .slice pa ps.length pc, .slice ka picks.length kc] 25 (0, 0))).cell? ⟨w.heap.size, 0, none⟩ = some (.int .u8 kind) := by rw [cell_of o0]; rfl
  have x1 : (w.alloc (.cells #[.int .u8 kind, .int .u8 bk, .slice pa ps.length pc, .slice ka picks.length kc] 25 (0, 0))).cell? ⟨w.heap.size, 1, none⟩ = some (.int .u8 bk) := by rw [cell_of o0]; rfl
  have x2 : (w.alloc (.cells #[.int .u8 kind, .int .u8 bk, .slice pa ps.length pc, .slice ka picks.length kc] 25 (0, 0))).cell? ⟨w.heap.size, 2, none⟩ = some (.slice pa ps.length pc) := by rw [cell_of o0]; rfl
  have HC := hid (cp2_ok ps (.slice pa ps.length pc) (rd_keep HRD.out H0 (fun _ _ e => e)) (fun y hy => ⟨rd_keep (HW.out y hy).rd H0 (fun _ _ e => e), (HW.out y hy).ops⟩) s4 s2)
  have HK0 := hid H0
  have HS4 := hid s4
  have hnr : ∀ (w1 : World) (v : Value) (qs : List ProgV), CpIn (w.alloc (.cells #[.int .u8 kind, .int .u8 bk, .slice pa ps.length pc, .slice ka picks.length kc] 25 (0, 0))) w1 v qs → qs.map (·.ops) = ps.map (·.ops) →
      Calls Tryz.prog 12 #[.int .u8 (1 + kr), .int .i64 (engBk (1 + kr) (br.toNat + 1)), v] w1 (RNewTo w1 ps.length (br.toNat + 1) (1 + kr)) := by
    intro w1 v qs hq hm
    have e : qs.length = ps.length := by have := congrArg List.length hm; simpa using this
    refine rnew_ok (w := w1) (n := ps.length) (nb := br.toNat + 1) (1 + kr) (by omega) (by omega) (by omega) qs e s1 s2 v ?_ hq.wf (fun y hy => ?_)
    · rw [← e]; exact row_rd hq.row
    · have : y.ops ∈ ps.map (·.ops) := by rw [← hm]; exact List.mem_map_of_mem hy
      obtain ⟨y', hy', e⟩ := List.mem_map.1 this
      rw [← e]; exact s4 y' hy'
  have HNR := hid hnr
  clear hnr
  have HRR := hid (show (1 + kr = 1 ∨ 1 + kr = 2 ∨ 1 + kr = 3) ∧ 1 ≤ br.toNat + 1 ∧ br.toNat + 1 ≤ 4 by omega)
  clear H0 o0 s4
  unfold RigsV.val
  simp only
  by_cases h3 : kr = 2
  · have d3 : ((1 + kr) == 3) = true := by simp; omega
    have eb : engBk (1 + kr) (br.toNat + 1) = 1 + br := by unfold engBk; rw [if_pos (by omega)]; omega
    rw [eb] at HNR
    clear h3 s1 s2 hr1 hr2
    go_enter Tryz.func6, Tryz.ntmps6
    go_wp2_with fail
    refine HC.out.mono ?_
    rintro e w1' ⟨v, qs, rfl, hq, hm⟩
    have HN := hid (HNR.out w1' v qs hq hm)
    have HKQ := hid (HK0.out.trans hq.kp (fun _ _ e => e))
    clear HC HNR hq hm
    go_wp2_with fail
    refine HN.out.mono ?_
    rintro e w2' ⟨E, C, A, s, h1, h2, rfl, h4, h5, h6, h7, h8, h9⟩
    have FIN := hid (show MadeTo w ps.length (.returned (.tuple #[pb C.m, .int .u8 (1 + kr), .int .i64 (1 + br)])) w2' from ⟨1 + kr, br.toNat + 1, E, C, A, s, HRR.out.1, HRR.out.2.1, HRR.out.2.2, h1, h2, by rw [eb], h4, h5, h6, h7, HKQ.out.trans h8 (fun _ _ e => e), fun k hk => Nat.le_trans HKQ.out.size (h9 k hk)⟩)
    clear HN HKQ h1 h2 h4 h5 h6 h7 h8 h9
    go_wp2
    go_ret3
    exact FIN.out
  · have d3 : ((1 + kr) == 3) = false := by simp; omega
    have eb : engBk (1 + kr) (br.toNat + 1) = 0 := by unfold engBk; rw [if_neg (by omega)]
    rw [eb] at HNR
    clear h3 s1 s2 hr1 hr2
    go_enter Tryz.func6, Tryz.ntmps6
    go_wp2_with fail
    refine HC.out.mono ?_
    rintro e w1' ⟨v, qs, rfl, hq, hm⟩
    have HN := hid (HNR.out w1' v qs hq hm)
    have HKQ := hid (HK0.out.trans hq.kp (fun _ _ e => e))
    clear HC HNR hq hm
    go_wp2_with fail
    refine HN.out.mono ?_
    rintro e w2' ⟨E, C, A, s, h1, h2, rfl, h4, h5, h6, h7, h8, h9⟩
    have FIN := hid (show MadeTo w ps.length (.returned (.tuple #[pb C.m, .int .u8 (1 + kr), .int .i64 0])) w2' from ⟨1 + kr, br.toNat + 1, E, C, A, s, HRR.out.1, HRR.out.2.1, HRR.out.2.2, h1, h2, by rw [eb], h4, h5, h6, h7, HKQ.out.trans h8 (fun _ _ e => e), fun k hk => Nat.le_trans HKQ.out.size (h9 k hk)⟩)
    clear HN HKQ h1 h2 h4 h5 h6 h7 h8 h9
    go_wp2
    go_ret3
    exact FIN.out
end
end Go.Proofs.YtldjlcdccnnogaaGreat
