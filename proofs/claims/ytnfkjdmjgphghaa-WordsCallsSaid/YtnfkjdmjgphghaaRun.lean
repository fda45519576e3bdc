/- within and run of the statements on words: contracts. -/
import Derived.Test.YtnfkjdmjgphghaaMemRead
import Derived.Test.YtnfkjdmjgphghaaRunPlain
namespace Go.Proofs.Ytnfkjdmjgphghaa
open Go.RowKit Go.Lf

theorem empty_row (w : World) (e : TypeId) (size : Nat) : (w.alloc (.cells #[] e)).ownsRow 0 e size (.slice (some ⟨w.heap.size, 0, none⟩) 0 0) 0 [] :=
  ⟨by simp, .inr ⟨_, 0, #[], rfl, Nat.zero_le _, heap_alloc_new w _, Nat.le_refl _, Nat.zero_le _, by simp, by simp⟩⟩

theorem tmod_low (i n : Int) (h0 : 0 < n) : -n < i.tmod n := by
  rcases Int.le_total 0 i with h | h
  · rw [Int.tmod_eq_emod_of_nonneg h]; have := Int.emod_nonneg i (show n ≠ 0 by omega); omega
  · obtain ⟨m, rfl⟩ : ∃ m, i = -m := ⟨-i, by omega⟩
    rw [Int.neg_tmod, Int.tmod_eq_emod_of_nonneg (by omega)]
    have := Int.emod_lt_of_pos m h0
    omega
theorem within_eq (i n : Int) : (i.tmod n + n) % n = i % n := by
  rw [Int.add_emod_right]
  rcases Int.le_total 0 i with h | h
  · rw [Int.tmod_eq_emod_of_nonneg h, Int.emod_emod]
  · obtain ⟨m, rfl⟩ : ∃ m, i = -m := ⟨-i, by omega⟩
    rw [Int.neg_tmod, Int.tmod_eq_emod_of_nonneg (by omega), Int.emod_eq_emod_iff_emod_sub_eq_zero]
    have e : -(m % n) - -m = n * (m / n) := by have := Int.emod_add_mul_ediv m n; omega
    rw [e, Int.mul_emod_right]

set_option maxHeartbeats 400000 in
theorem within_any (i n : Int) (hi : I64 i) (h0 : 0 < n) (h1 : n ≤ 1000000) (w : World) :
    Calls Try.prog 23 #[.int .i64 i, .int .i64 n] w fun e w' => e = .returned (.int .i64 (i % n)) ∧ w = w' := by
  obtain ⟨b0, b1⟩ := hi
  have hn : (n == 0) = false := beq_eq_false_iff_ne.2 (by omega)
  have h2 := Int.tmod_lt_of_pos i h0
  have h3 := tmod_low i n h0
  rw [← within_eq i n]
  go_enter Try.func23, Try.ntmps23
  go_wp2
  go_ret
  exact ⟨rfl, rfl⟩

/-- A new memory that a run has filled. -/
def RunTo (w : World) (ws : List Int) (l : List Do) (e : Ending) (w' : World) : Prop :=
  ∃ b F, e = .returned (.pointer (some ⟨b, 0, none⟩)) ∧ MemAt w' b F (runM ws l).1 (runM ws l).2 ∧ Own w F w'

def RunInv (w : World) (ws : List Int) (l : List Do) (b k : Nat) (wr : World) : Prop :=
  ∃ F, MemAt wr b F (runM ws (l.take k)).1 (runM ws (l.take k)).2 ∧ Own w F wr

theorem RunInv.next {w wr w1 : World} {ws : List Int} {l : List Do} {b k : Nat} {F : Nat → Prop} {x : Do} {s : List Int × List Acc} (hx : l[k]? = some x) (ho : Own w F wr) (hs : s = stepM (runM ws (l.take k)) x)
    (h : MemTo wr b F s.1 s.2 w1) : RunInv w ws l b (k + 1) w1 := by
  obtain ⟨F1, h1, k1, f1⟩ := h
  exact ⟨F1, by rw [runM_take hx, ← hs]; exact h1, ho.step k1 f1⟩

set_option maxRecDepth 100000 in
set_option maxHeartbeats 4000000 in
theorem run_ok (va vb : Value) (ws : List Int) (l : List Do) (w : World) (h1 : Rd w 1 va ws.length (u64s ws)) (h2 : Rd w 5 vb l.length (doCells l)) (h0 : 0 < ws.length) (hm : ws.length ≤ 300) (hl : l.length ≤ 200)
    (hu : ∀ v ∈ ws, U64 v) (hd : ∀ x ∈ l, x.wf) : Calls Try.prog 24 #[va, vb] w (RunTo w ws l) := by
  obtain ⟨a, c, rfl, -, -⟩ := id h1
  obtain ⟨a2, c2, rfl, -, -⟩ := id h2
  have H1 := hid h1
  have H2 := hid h2
  have HU := hid hu
  have HD := hid hd
  clear h1 h2 hu hd
  go_enter Try.func24, Try.ntmps24
  go_wp2_with (at_builtin; refine wpList_app _ rfl (.tmp 12) (.tmp 13) 22 rfl 39 _ 1 8 Try.underlying22 infoU64 rfl (by decide) (.slice (some ⟨w.heap.size, 0, none⟩) 0 0) 0 [] rfl ?own (.slice a ws.length c) ws.length (u64s ws) rfl ?rd ?one ?byt ?len ?_)
  case own => exact empty_row w _ _
  case rd => exact rd_keep H1.out (Keep.alloc (Keep.refl Nil _) _) (fun _ _ h => h)
  case one => exact u64s_one _
  case byt => omega
  case len => unfold maxLen; omega
  intro oa oc w1 ho hg hs
  have k1 : Keep Nil w w1 := Keep.grown (Keep.alloc (Keep.refl _ _) _) hg (fun j hj => .inr (by simp [Value.ownBlock] at hj; omega))
  have K1 := hid k1
  have R1 := hid (row_rd ho)
  clear ho hg hs k1
  go_wp2_with (go_at_call 11; refine (new_ok _ ws _ R1.out h0 (by omega)).mono ?_; rintro e w2 ⟨b, F, rfl, hmem, k2, f2⟩)
  have HI := hid (show RunInv w ws l b 0 w2 from ⟨F, hmem, Own.fresh K1.out k2 f2⟩)
  clear hmem k2 f2
  go_wp2
  go_loopw [7] (fun i wr => ∃ (k : Nat), k ≤ l.length ∧ i = .int .i64 k ∧ RunInv w ws l b k wr) (fun i _ => l.length - (intOf i).toNat)
  case atStart => exact ⟨0, Nat.zero_le _, rfl, HI.out⟩
  case round =>
    obtain ⟨k, hk, rfl, F, hmem, ho⟩ := hrel
    by_cases hlt : k < l.length
    · obtain ⟨x, hx⟩ : ∃ x, l[k]? = some x := ⟨_, List.getElem?_eq_getElem hlt⟩
      have hu' := runM_u64 (l := l.take k) HU.out (fun y hy => HD.out y (List.mem_of_mem_take hy)) h0
      have hll := runM_log ws (l.take k)
      have hlk : (l.take k).length ≤ k := List.length_take_le _ _
      have hln := runM_length ws (l.take k)
      obtain ⟨s, hs⟩ : ∃ s, s = runM ws (l.take k) := ⟨_, rfl⟩
      have nxt := @RunInv.next w wr
      rw [← hs] at hmem hu' hll hln
      have hwf := HD.out x (List.mem_of_getElem? hx)
      have HS := hid hs
      have HX := hid hx
      obtain ⟨ab, off, cc, hve, hc⟩ := Rd.cell H2.out (by omega)
      simp only [Value.slice.injEq] at hve
      obtain ⟨rfl, -, rfl⟩ := hve
      have q : ∀ j u, x.cells[j]? = some u → wr.cell? ⟨ab, off + k * 5 + j, none⟩ = some u := fun j u hu => by rw [Nat.add_assoc]; exact ho.1.cell (hc (k * 5 + j) _ (doCells_at hx hu)) (fun h => h)
      have c0 : wr.cell? ⟨ab, off + k * 5, none⟩ = some (.int .u8 x.w) := q 0 _ rfl
      have c1 := q 1 _ rfl
      have c2 := q 2 _ rfl
      have c3 := q 3 _ rfl
      have c4 := q 4 _ rfl
      have hit : I64 x.t := I64.of_wf hwf.2.1
      have hia : I64 x.a := I64.of_wf hwf.2.2.1
      obtain ⟨hw0, hw1⟩ : U8 x.w := U8.of_wf hwf.1
      have ht0 : 0 ≤ x.t % 64 := Int.emod_nonneg _ (by omega)
      have ht1 : x.t % 64 < 64 := Int.emod_lt_of_pos _ (by omega)
      have ha0 : 0 ≤ x.a % ws.length := Int.emod_nonneg _ (by omega)
      have ha1 : x.a % ws.length < ws.length := Int.emod_lt_of_pos _ (by omega)
      have hgv := gv_at (ws := s.1) (a := x.a % ws.length) ha0 (by omega)
      have hgu : U64 (gv s.1 (x.a % ws.length)) := hu' _ (List.mem_of_getElem? hgv)
      have hlg : s.2.length < 1000000000000 := by omega
      have HL := hid hln
      have HG := hid hgv
      have HGU := hid hgu
      have HO := hid ho
      have HIT := hid hit
      have HIA := hid hia
      have HM := hid hmem
      clear hmem hs hx hc q hu' hll hln hgv hgu ho hit hia hwf HI nxt
      go_wp2
      go_quiet ((go_at_call 23; exact quiet_eq (within_any _ _ (by first | exact HIT.out | exact HIA.out) (by omega) (by omega) _)))
      obtain ⟨W, hW⟩ : ∃ W, W = (wr.alloc (.cells #[.int .u8 x.w, .int .i64 x.t, .int .i64 x.a, .int .u64 x.o, .int .u64 x.v] 50)).drewN nq := ⟨_, rfl⟩
      rw [← hW]
      have kW : Keep Nil wr W := by rw [hW]; exact ((Keep.refl _ _).alloc _).drewN _
      have hbx : W.heap[wr.heap.size]? = some (.cells #[.int .u8 x.w, .int .i64 x.t, .int .i64 x.a, .int .u64 x.o, .int .u64 x.v] 50 (0, 0)) := by rw [hW]; exact heap_alloc_new wr _
      have e0 : W.cell? ⟨wr.heap.size, 0, none⟩ = some (.int .u8 x.w) := by rw [cell_of hbx]; rfl
      have e3 : W.cell? ⟨wr.heap.size, 3, none⟩ = some (.int .u64 x.o) := by rw [cell_of hbx]; rfl
      have e4 : W.cell? ⟨wr.heap.size, 4, none⟩ = some (.int .u64 x.v) := by rw [cell_of hbx]; rfl
      have HW := hid (HM.out.keep kW (fun _ _ h => h))
      have HOW := hid (HO.out.quiet kW)
      clear hW kW hbx c0 c1 c2 c3 c4
      have hsz : 0 < s.1.length := by have := HL.out; omega
      have fin : ∀ W2 (q : List Int × List Acc), q = stepM s x → MemTo W b F q.1 q.2 W2 → RunInv w ws l b (k + 1) W2 := fun W2 q hq hto => RunInv.next HX.out HOW.out (by rw [hq, HS.out]) hto
      have FIN := hid fin
      clear fin
      have ea : x.a % s.1.length = x.a % ws.length := by rw [HL.out]
      have EA := hid ea
      clear ea
      have h5 : x.w % 5 = 0 ∨ x.w % 5 = 1 ∨ x.w % 5 = 2 ∨ x.w % 5 = 3 ∨ x.w % 5 = 4 := by omega
      rcases h5 with h5 | h5 | h5 | h5 | h5
      · have d0 : (x.w % 5 == 0) = true := beq_iff_eq.2 h5
        have H5 := hid h5
        clear h5
        go_wp2_with fail
        refine (load_ok HW.out _ _ _ ht0 ht1 ha0 HG.out hlg).mono ?_
        rintro e W2 ⟨rfl, hto⟩
        have HT := hid (FIN.out W2 _ (by rw [stepM_0 hsz H5.out, EA.out]) hto)
        clear hto
        go_wp2
        go_roundw
        case rel => exact ⟨k + 1, by omega, by go_num, HT.out⟩
        case measure => simp [intOf]; omega
      · have d0 : (x.w % 5 == 0) = false := beq_eq_false_iff_ne.2 (by omega)
        have d1 : (x.w % 5 == 1) = true := beq_iff_eq.2 h5
        have H5 := hid h5
        clear h5
        go_wp2_with fail
        refine (store_ok HW.out _ _ _ _ ht0 ht1 ha0 HG.out hlg).mono ?_
        rintro e W2 ⟨rfl, hto⟩
        have HT := hid (FIN.out W2 _ (by rw [stepM_1 H5.out, EA.out]) hto)
        clear hto
        go_wp2
        go_roundw
        case rel => exact ⟨k + 1, by omega, by go_num, HT.out⟩
        case measure => simp [intOf]; omega
      · have d0 : (x.w % 5 == 0) = false := beq_eq_false_iff_ne.2 (by omega)
        have d1 : (x.w % 5 == 1) = false := beq_eq_false_iff_ne.2 (by omega)
        have d2 : (x.w % 5 == 2) = true := beq_iff_eq.2 h5
        have H5 := hid h5
        clear h5
        go_wp2_with fail
        refine (add_ok HW.out _ _ _ _ ht0 ht1 ha0 HG.out HGU.out.1 HGU.out.2 hlg).mono ?_
        rintro e W2 ⟨rfl, hto⟩
        have HT := hid (FIN.out W2 _ (by rw [stepM_2 H5.out, EA.out]) hto)
        clear hto
        go_wp2
        go_roundw
        case rel => exact ⟨k + 1, by omega, by go_num, HT.out⟩
        case measure => simp [intOf]; omega
      · have d0 : (x.w % 5 == 0) = false := beq_eq_false_iff_ne.2 (by omega)
        have d1 : (x.w % 5 == 1) = false := beq_eq_false_iff_ne.2 (by omega)
        have d2 : (x.w % 5 == 2) = false := beq_eq_false_iff_ne.2 (by omega)
        have d3 : (x.w % 5 == 3) = true := beq_iff_eq.2 h5
        have H5 := hid h5
        clear h5
        by_cases hgo : gv s.1 (x.a % ws.length) = x.o
        · have HGO := hid hgo
          clear hgo
          go_wp2_with fail
          refine (cas_yes HW.out _ _ _ _ ht0 ht1 ha0 (HG.out.trans (by rw [HGO.out])) hlg).mono ?_
          rintro e W2 ⟨rfl, hto⟩
          have HT := hid (FIN.out W2 _ (by rw [stepM_3y H5.out (by rw [EA.out]; exact HGO.out), EA.out]) hto)
          clear hto
          go_wp2
          go_roundw
          case rel => exact ⟨k + 1, by omega, by go_num, HT.out⟩
          case measure => simp [intOf]; omega
        · have HGO := hid hgo
          clear hgo
          go_wp2_with fail
          refine (cas_no HW.out _ _ _ _ _ ht0 ht1 ha0 HG.out HGO.out hlg).mono ?_
          rintro e W2 ⟨rfl, hto⟩
          have HT := hid (FIN.out W2 _ (by rw [stepM_3n hsz H5.out (by rw [EA.out]; exact HGO.out), EA.out]) hto)
          clear hto
          go_wp2
          go_roundw
          case rel => exact ⟨k + 1, by omega, by go_num, HT.out⟩
          case measure => simp [intOf]; omega
      · have d0 : (x.w % 5 == 0) = false := beq_eq_false_iff_ne.2 (by omega)
        have d1 : (x.w % 5 == 1) = false := beq_eq_false_iff_ne.2 (by omega)
        have d2 : (x.w % 5 == 2) = false := beq_eq_false_iff_ne.2 (by omega)
        have d3 : (x.w % 5 == 3) = false := beq_eq_false_iff_ne.2 (by omega)
        have HT := hid (FIN.out W _ (stepM_4 h5).symm ⟨F, HW.out, Keep.refl _ _, fun j hj => .inl hj⟩)
        clear h5
        go_wp2
        go_roundw
        case rel => exact ⟨k + 1, by omega, by go_num, HT.out⟩
        case measure => simp [intOf]; omega
    · obtain rfl : k = l.length := by omega
      rw [List.take_of_length_le (Nat.le_refl _)] at hmem
      have HM := hid hmem
      have HO := hid ho
      clear hmem ho HI
      go_wp2
      go_ret
      exact ⟨b, F, rfl, HM.out, HO.out⟩
end Go.Proofs.Ytnfkjdmjgphghaa
