/- WordsSpoilt: the walk. -/
import Derived.Test.YtnfkjdmjgphghaaRun
import Derived.Test.YtnfkjdmjgphghaaConsPlain
import Derived.Test.YtnfkjdmjgphghaaLogRd
import Derived.Test.YtnfkjdmjgphghaaReplay
namespace Go.Lf
open Go.RowKit

theorem logCells_set {l : List Acc} {k : Nat} {x : Acc} (h : l[k]? = some x) (v : Int) : (logCells l).set (k * 6 + 3) (.int .u64 v) = logCells (l.set k { x with o := v }) := by
  induction l generalizing k with
  | nil => simp at h
  | cons y l ih =>
    cases k with
    | zero => simp at h; subst h; simp [logCells, Acc.cells]
    | succ k =>
      have e : (k + 1) * 6 + 3 = (k * 6 + 3) + 6 := by omega
      rw [e]
      have := ih (k := k) (by simpa using h)
      simp [logCells, Acc.cells] at this ⊢
      exact this

theorem spoilt_bad {ws cur : List Int} {log : List Acc} {k : Nat} {x : Acc} {d : Int} (h : after ws log = some cur) (hx : log[k]? = some x) (hd : U64 d) (h0 : d ≠ 0) :
    BadAt ws (log.set k { x with o := IntKind.u64.wrap (x.o + d) }) k := by
  obtain ⟨c, hc⟩ := after_take h k
  obtain ⟨c', hc'⟩ := after_take h (k + 1)
  obtain ⟨hk, rfl⟩ := List.getElem?_eq_some_iff.1 hx
  rw [List.take_succ_eq_append_getElem hk, after_append, hc] at hc'
  have hp : possB c log[k] = true := by
    cases hb : possB c log[k] with
    | true => rfl
    | false => simp [after, hb] at hc'
  have ho := (possB_at hp).2.2.2.2.1
  refine ⟨c, { log[k] with o := IntKind.u64.wrap (log[k].o + d) }, ?_, by rw [List.getElem?_set, if_pos rfl, if_pos hk], possB_old (y := log[k].o) ho ?_⟩
  · rw [List.take_set, List.set_eq_of_length_le (by rw [List.length_take]; omega)]; exact hc
  · show log[k].o ≠ IntKind.u64.wrap (log[k].o + d)
    rw [IntKind.wrap_u64]
    obtain ⟨d0, d1⟩ := hd
    omega
end Go.Lf
namespace Go.Proofs.Ytnfkjdmjgphghaa
open Go.RowKit Go.Lf

set_option maxRecDepth 100000 in
set_option maxHeartbeats 4000000 in
theorem spoilt_ok (va vb : Value) (ws : List Int) (l : List Do) (at_ d : Int) (w : World) (h1 : Rd w 1 va ws.length (u64s ws)) (h2 : Rd w 5 vb l.length (doCells l)) (h0 : 0 < ws.length) (hm : ws.length ≤ 300) (hl : l.length ≤ 200)
    (hu : ∀ v ∈ ws, U64 v) (hd : ∀ x ∈ l, x.wf) (hat : I64 at_) (hdu : U64 d) (hd0 : d ≠ 0) :
    Calls Try.prog 9 #[va, vb, .int .i64 at_, .int .u64 d] w fun e w' => e = .returned (.bool true) ∧ Keep Nil w w' := by
  obtain ⟨a, c, rfl, -, -⟩ := id h1
  obtain ⟨a2, c2, rfl, -, -⟩ := id h2
  have d1 : decide ((ws.length : Int) < 1) = false := decide_eq_false (by omega)
  have d2 : decide (300 < (ws.length : Int)) = false := decide_eq_false (by omega)
  have d3 : decide (200 < (l.length : Int)) = false := decide_eq_false (by omega)
  have d4 : (d == 0) = false := beq_eq_false_iff_ne.2 hd0
  have H1 := hid h1
  have hrun := hid (run_ok _ _ ws l w h1 h2 h0 hm hl hu hd)
  have hlog := runM_log ws l
  have haf := run_after ws l h0
  obtain ⟨cur, hcur⟩ : ∃ cur, cur = (runM ws l).1 := ⟨_, rfl⟩
  obtain ⟨log, hlg⟩ : ∃ log, log = (runM ws l).2 := ⟨_, rfl⟩
  have hrt : ∀ e w', RunTo w ws l e w' → ∃ b F, e = .returned (.pointer (some ⟨b, 0, none⟩)) ∧ MemAt w' b F cur log ∧ Own w F w' := by
    intro e w' h
    obtain ⟨b, F, he, h, ho⟩ := h
    exact ⟨b, F, he, by rw [hcur, hlg]; exact h, ho⟩
  have HRT := hid hrt
  rw [← hcur, ← hlg] at haf
  rw [← hlg] at hlog
  have HAF := hid haf
  have HAT := hid hat
  have HDU := hid hdu
  have HD0 := hid hd0
  clear h1 h2 hu hd hcur hlg hrt haf hat hdu hd0
  go_enter Try.func9, Try.ntmps9
  go_wp2_with fail
  refine hrun.out.mono ?_
  intro e w1 hr
  obtain ⟨b, F, rfl, hmem, hown⟩ := HRT.out _ _ hr
  have HM := hid hmem
  have HO := hid hown
  clear hr hmem hown
  go_wp2_with fail
  refine (log_all HM.out (by omega)).mono ?_
  rintro e w2 ⟨la, lc, rfl, rdl, k2, hfr⟩
  have K2 := hid (HO.out.quiet k2)
  by_cases hz : log.length = 0
  · have hzb : ((log.length : Int) == 0) = true := beq_iff_eq.2 (by omega)
    clear hz rdl k2 hfr
    go_wp2
    go_ret
    exact ⟨rfl, K2.out.1⟩
  · obtain ⟨g, rfl, hgz, hg⟩ := hfr (by omega)
    have hzb : ((log.length : Int) == 0) = false := beq_eq_false_iff_ne.2 (by omega)
    have hk0 : 0 ≤ at_ % log.length := Int.emod_nonneg _ (by omega)
    have hk1 : at_ % log.length < log.length := Int.emod_lt_of_pos _ (by omega)
    have hlp : 0 < (log.length : Int) := by omega
    obtain ⟨k, hk⟩ := Int.eq_ofNat_of_zero_le hk0
    have hklt : k < log.length := by omega
    obtain ⟨x, hx⟩ : ∃ x, log[k]? = some x := ⟨_, List.getElem?_eq_getElem hklt⟩
    have hw : Calls Try.prog 23 #[.int .i64 at_, .int .i64 log.length] w2 fun e w' => e = .returned (.int .i64 k) ∧ w2 = w' := by
      rw [← hk]; exact within_any _ _ HAT.out hlp (by omega) _
    have HW := hid hw
    have c3 : w2.cell? ⟨g, k * 6 + 3, none⟩ = some (.int .u64 x.o) := by
      rw [cell_of hg]; simpa using logCells_at hx (show x.cells[3]? = some (.int .u64 x.o) from rfl)
    have f3 : w2.frozen? ⟨g, k * 6 + 3, none⟩ = false := free_of hg _
    have HGZ := hid hgz
    have HG := hid hg
    have HX := hid hx
    clear hz rdl k2 hgz hg hx hk hw hk0 hk1 hlp hfr
    obtain ⟨W, hW⟩ : ∃ W, W = w2.setCell ⟨g, k * 6 + 3, none⟩ (.int .u64 (IntKind.u64.wrap (x.o + d))) := ⟨_, rfl⟩
    have hWs : W.heap.size = w2.heap.size := by rw [hW]; simp
    have kW : Keep (fun j => j = g) w2 W := by rw [hW]; exact Keep.setCell (S := fun j => j = g) (Keep.refl _ _) (.inl rfl) _
    have gW : W.heap[g]? = some (.cells (logCells (log.set k { x with o := IntKind.u64.wrap (x.o + d) })).toArray 56 (0, 0)) := by
      rw [hW, set_same HG.out, ← logCells_set HX.out]; simp
    have kwW : Keep Nil w W := K2.out.1.trans kW (fun j hj e => by subst e; have h1 := HGZ.out; have h2 := HO.out.1.size; exact absurd hj (by omega))
    have HWS := hid hWs
    have KW := hid kwW
    have GW := hid gW
    have HWE := hid hW
    clear hW hWs kW gW kwW
    go_wp2_with (first | (go_at_call 23; refine HW.out.mono ?_; rintro e w' ⟨rfl, rfl⟩) | (at_builtin; rw [← HWE.out]; refine wpList_app _ rfl (.tmp 56) (.tmp 57) 22 rfl 39 _ 1 8 Try.underlying22 infoU64 rfl (by decide) (.slice (some ⟨w2.heap.size, 0, none⟩) 0 0) 0 [] rfl ?own (.slice a ws.length c) ws.length (u64s ws) rfl ?rd ?one ?byt ?len ?_))
    case own => rw [← HWS.out]; exact empty_row W _ _
    case rd => exact rd_keep H1.out (KW.out.alloc _) (fun _ _ h => h)
    case one => exact u64s_one _
    case byt => omega
    case len => unfold maxLen; omega
    intro oa oc w5 ho hg hs
    have k5 : Keep Nil W w5 := Keep.grown (Keep.alloc (Keep.refl _ _) _) hg (fun j hj => .inr (by have := HWS.out; simp [Value.ownBlock] at hj; omega))
    have K5 := hid k5
    have R5 := hid (row_rd ho)
    clear ho hg hs k5
    have hll : (log.set k { x with o := IntKind.u64.wrap (x.o + d) }).length = log.length := List.length_set
    have hrdl : Rd w5 6 (.slice (some ⟨g, 0, none⟩) log.length lc) (log.set k { x with o := IntKind.u64.wrap (x.o + d) }).length (logCells (log.set k { x with o := IntKind.u64.wrap (x.o + d) })) := by
      rw [hll]
      exact ⟨_, lc, rfl, by rw [length_logCells, hll], .inr <| .inl ⟨g, 0, rfl, fun j u hu => by rw [Nat.zero_add]; exact K5.out.cell (by rw [cell_of GW.out]; simpa using hu) (fun h => h)⟩⟩
    have RDL := hid hrdl
    have BAD := hid (spoilt_bad HAF.out HX.out HDU.out HD0.out)
    have hl2 : (log.set k { x with o := IntKind.u64.wrap (x.o + d) }).length ≤ 1000000000 := by omega
    clear hrdl hll c3 f3
    go_wp2_with fail
    refine (replay_ok _ _ ws (log.set k { x with o := IntKind.u64.wrap (x.o + d) }) _ R5.out RDL.out h0 (by omega) hl2).mono ?_
    rintro e w6 ⟨k6, hA⟩
    rcases hA with ⟨cur', v, haf', rfl, hv⟩ | ⟨k', hb, rfl⟩
    · exact absurd BAD.out.none (by rw [haf']; simp)
    · obtain rfl := BAD.out.one hb
      have K6 := hid k6
      clear k6 hb
      go_wp2
      go_ret
      exact ⟨rfl, (KW.out.trans K5.out (fun _ _ h => h)).trans K6.out (fun _ _ h => h)⟩

theorem walk_spoilt (w : World) (va : Value) (ws : List Int) (h1 : Rd w 1 va ws.length (u64s ws)) (b1 : ∀ n ∈ ws, (Lit.int .u64 n).wf = true) (m1 : ws.length ≤ maxLen)
    (vb : Value) (l : List Do) (h2 : Rd w 5 vb l.length (doCells l)) (b2 : ∀ x ∈ l, Do.wf x) (m2 : l.length ≤ maxLen) (i : Int) (bi : (Lit.int .i64 i).wf = true) (d : Int) (bd : (Lit.int .u64 d).wf = true) :
    Calls Try.prog 9 #[va, vb, .int .i64 i, .int .u64 d] w fun e w' => e = .returned (.bool true) ∧ Keep Nil w w' := by
  unfold maxLen at m1 m2
  by_cases hn1 : ws.length < 1
  · obtain ⟨a, c, rfl, -, -⟩ := h1
    obtain ⟨a2, c2, rfl, -, -⟩ := h2
    have d1 : decide ((ws.length : Int) < 1) = true := decide_eq_true (by omega)
    clear hn1 b1 b2
    go_enter Try.func9, Try.ntmps9
    go_wp2
    go_ret
    exact ⟨rfl, Keep.refl _ _⟩
  have d1 : decide ((ws.length : Int) < 1) = false := decide_eq_false (by omega)
  by_cases hn2 : 300 < ws.length
  · obtain ⟨a, c, rfl, -, -⟩ := h1
    obtain ⟨a2, c2, rfl, -, -⟩ := h2
    have d2 : decide (300 < (ws.length : Int)) = true := decide_eq_true (by omega)
    clear hn1 hn2 b1 b2
    go_enter Try.func9, Try.ntmps9
    go_wp2
    go_ret
    exact ⟨rfl, Keep.refl _ _⟩
  have d2 : decide (300 < (ws.length : Int)) = false := decide_eq_false (by omega)
  by_cases hn3 : 200 < l.length
  · obtain ⟨a, c, rfl, -, -⟩ := h1
    obtain ⟨a2, c2, rfl, -, -⟩ := h2
    have d3 : decide (200 < (l.length : Int)) = true := decide_eq_true (by omega)
    clear hn1 hn2 hn3 b1 b2
    go_enter Try.func9, Try.ntmps9
    go_wp2
    go_ret
    exact ⟨rfl, Keep.refl _ _⟩
  have d3 : decide (200 < (l.length : Int)) = false := decide_eq_false (by omega)
  by_cases hd0 : d = 0
  · obtain ⟨a, c, rfl, -, -⟩ := h1
    obtain ⟨a2, c2, rfl, -, -⟩ := h2
    have d4 : (d == 0) = true := beq_iff_eq.2 hd0
    clear hn1 hn2 hn3 b1 b2 hd0
    go_enter Try.func9, Try.ntmps9
    go_wp2
    go_ret
    exact ⟨rfl, Keep.refl _ _⟩
  exact spoilt_ok va vb ws l i d w h1 h2 (by omega) (by omega) (by omega) (fun v hv => U64.of_wf (b1 v hv)) b2 (I64.of_wf bi) (U64.of_wf bd) hd0
end Go.Proofs.Ytnfkjdmjgphghaa
