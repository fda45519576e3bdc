/- gate: Engine.Wait begins to wait: contract. -/
import Derived.Test.YtihgfklajhhikaaGateEnt
import Derived.Test.YtihgfklajhhikaaGateStep
import Derived.Deep.LoopGhost
set_option linter.unusedVariables false
set_option linter.unusedSimpArgs false
namespace Go.Proofs.Ytihgfklajhhikaa
open Go.RowKit Go.Lf
section
variable {w : World} {g r mb eb sb : Nat} {F : Nat → Prop} {base : Int} {n : Nat} {ml : List (Int × Value)} {ws : List Int} {log : List Acc} {t a c : Int}
/-- While a wait begins: its block, and the buckets that it has found. -/
def GWB (w : World) (g : Nat) (t : Int) (l : List Nat) (wr : World) : Prop :=
  ∃ v, GHead wr w.heap.size g t v (.pointer none) 0 6 ∧ wr.ownsRow 0 3 1 v l.length (nums l) ∧ Keep Nil w wr ∧ ∀ k, v.ownBlock = some k → w.heap.size < k
theorem GWB.keep {l : List Nat} {w1 w2 : World} (h : GWB w g t l w1) (hk : Keep Nil w1 w2) : GWB w g t l w2 := by
  obtain ⟨v, h1, h2, h3, h4⟩ := h
  exact ⟨v, hk.at h1 (fun h => h), row_keep h2 hk (fun _ _ h => h), h3.trans hk (fun _ _ h => h), h4⟩
theorem GWB.start : GWB w g t [] (w.alloc (.cells #[ptr g, .int .i64 t, .slice none 0 0, .pointer none, .int .u64 0, .int .u8 0, .nilFunc] 206)) :=
  ⟨_, heap_alloc_new w _, World.ownsRow_nil _ _ _ _, (Keep.refl Nil w).alloc _, by simp [Value.ownBlock]⟩
theorem lvAt_row {w : World} {v : Value} {l : List Nat} (h : w.ownsRow 0 3 1 v l.length (nums l)) : LvAt w v l := by
  have hr := row_rd h
  rcases h.2 with ⟨h1, h2⟩ | ⟨g0, cap, cur, hv, -, -, h3, -, -, -⟩
  · exact ⟨none, 0, by rw [h1, h2], hr, by omega⟩
  · exact ⟨_, cap, hv, hr, h3⟩
theorem rd_slice {w : World} {v : Value} {m n : Nat} {xs : List Value} (h : Rd w m v n xs) : ∃ a c, v = .slice a n c := by
  obtain ⟨a, c, h1, -⟩ := h
  exact ⟨a, c, h1⟩
theorem row_block {w : World} {v : Value} {base n size : Nat} {e : TypeId} {xs : List Value} (h : w.ownsRow base e size v n xs) {k : Nat} (hk : v.ownBlock = some k) : k < w.heap.size := by
  rcases h.2 with ⟨h1, h2⟩ | ⟨g0, cap, cur, hv, -, hb, -⟩
  · rw [h1] at hk; cases hk
  · rw [hv] at hk; simp only [Value.ownBlock, Option.some.injEq] at hk; subst hk; exact lt_of_block hb
theorem bkt_no {M : List Nat} {s n b : Nat} (h : M.any (fun v => v % n == b) = inB s n b) (hn : M.any (fun v => v % n == b) = false) : bktTo s n (b + 1) = bktTo s n b := by
  rw [bktTo_succ, ← h, hn]; rfl
theorem bkt_yes {M : List Nat} {s n b j v : Nat} (h : M.any (fun v => v % n == b) = inB s n b) (hv : M[j]? = some v) (he : v % n = b) : bktTo s n (b + 1) = bktTo s n b ++ [b] := by
  rw [bktTo_succ, ← h, if_pos]
  rw [List.any_eq_true]
  exact ⟨v, List.mem_of_getElem? hv, beq_iff_eq.2 he⟩
theorem any_drop {M : List Nat} {p : Nat → Bool} {j v : Nat} (hv : M[j]? = some v) (hp : p v = false) : (M.drop (j + 1)).any p = (M.drop j).any p := by
  obtain ⟨h1, h2⟩ := List.getElem?_eq_some_iff.1 hv
  rw [List.drop_eq_getElem_cons h1, h2, List.any_cons, hp, Bool.false_or]
/-! Wait. -/
set_option maxHeartbeats 1000000 in
theorem gwait_nil (t s : Int) : Calls Try.prog 56 #[.pointer none, .int .i64 t, .int .u64 s] w fun e w' => e = .returned (.tuple #[.pointer none, .int .i64 1]) ∧ w = w' := by
  go_enter Try.func56, Try.ntmps56
  go_wp2
  go_step3
  go_wp2_with fail
  refine (gthread_nil t).mono ?_
  rintro e w' ⟨rfl, rfl⟩
  go_wp2
  (try rw [Exit.noGoto_ret])
  go_ret2
  exact ⟨rfl, rfl⟩
set_option maxHeartbeats 1000000 in
theorem gwait_err (g : Nat) (t s : Int) (h : t < 0 ∨ 64 ≤ t ∨ s = 0) : Calls Try.prog 56 #[ptr g, .int .i64 t, .int .u64 s] w fun e w' => e = .returned (.tuple #[.pointer none, .int .i64 2]) ∧ w = w' := by
  by_cases h1 : t < 0 ∨ 64 ≤ t
  · have HT := hid (@gthread_no w g t h1)
    clear h h1
    go_enter Try.func56, Try.ntmps56
    go_wp2
    go_step3
    go_wp2_with fail
    refine HT.out.mono ?_
    rintro e w' ⟨rfl, rfl⟩
    go_wp2
    (try rw [Exit.noGoto_ret])
    go_ret2
    exact ⟨rfl, rfl⟩
  · have HT := hid (@gthread_ok w g t (by omega) (by omega))
    obtain rfl : s = 0 := by omega
    clear h h1
    go_enter Try.func56, Try.ntmps56
    go_wp2
    go_step3
    go_wp2_with fail
    refine HT.out.mono ?_
    rintro e w' ⟨rfl, rfl⟩
    go_wp2
    (try rw [Exit.noGoto_ret])
    go_ret2
    exact ⟨rfl, rfl⟩
/-- A wait has begun. -/
def GWaitTo (w : World) (g mb : Nat) (t : Int) (base : Int) (left : List Nat) (e : Ending) (w' : World) : Prop :=
  ∃ wb lv lp, e = .returned (.tuple #[ptr wb, .int .i64 0]) ∧ GHead w' wb g t lv lp 0 (if left = [] then 6 else 0) ∧ LvAt w' lv left ∧ Keep Nil w w' ∧ w.heap.size ≤ wb ∧ (∀ k, lv.ownBlock = some k → w.heap.size ≤ k ∧ k ≠ wb) ∧
    ∀ (b : Nat) (r : List Nat), left = b :: r → ∃ lb, lp = ptr lb ∧ w.heap.size ≤ lb ∧ wb ≠ lb ∧ (∀ k, lv.ownBlock = some k → k ≠ lb) ∧ LockAt w' lb mb ⟨0, 0, t, base + 4 * b + 3, true, 0⟩
theorem memB_step (s n k : Nat) (hs : s < 18446744073709551616) : (mems s 64).any (fun v => v % n == k) = inB s n k := by
  rw [Bool.eq_iff_iff, inB_iff, List.any_eq_true]
  constructor
  · rintro ⟨v, hv, he⟩
    simp only [mems, List.mem_filter, List.mem_range] at hv
    exact ⟨v, hv.1, beq_iff_eq.1 he, hv.2⟩
  · rintro ⟨v, h1, h2, h3⟩
    exact ⟨v, by simp only [mems, List.mem_filter, List.mem_range]; exact ⟨h1, h3⟩, beq_iff_eq.2 h2⟩
set_option maxRecDepth 100000 in
set_option maxHeartbeats 8000000 in
theorem gwait_ok (hm : MemAt w mb F ws log) (h : GEngAt w g r mb base n ml) (t : Int) (s : Nat) (t0 : 0 ≤ t) (t1 : t < 64) (s0 : s ≠ 0) (s1 : s < 18446744073709551616) (b0 : 0 ≤ base) (b1 : base < 1000000) (n0 : 1 ≤ n) (n1 : n ≤ 16) (hlk : ∀ b ∈ bkts s n, lckErr t (base + 4 * b + 3) 0 ws.length = 0) :
    Calls Try.prog 56 #[ptr g, .int .i64 t, .int .u64 s] w (GWaitTo w g mb t base (bkts s n)) := by
  have HT := hid (@gthread_ok w g t t0 t1)
  have d0 : ((s : Int) == 0) = false := beq_eq_false_iff_ne.2 (by omega)
  obtain ⟨c0, c1, c2, c3⟩ := h.cells
  have HM := hid hm
  have H := hid h
  have HLK := hid hlk
  have HNE := hid (bkts_ne s1 s0 n0)
  have hg := lt_of_block h.head
  have HB := hid (fun (v : Nat) (hv : v < 64) (w : World) => @bucket_ok w v n hv n0 n1)
  have HME := hid (members_any s s1)
  have HMB := hid (fun k => memB_step s n k s1)
  have HML := hid (show ∀ (i v : Nat), (mems s 64)[i]? = some v → v < 64 from fun i v hv => by
    have := List.mem_of_getElem? hv
    simp only [mems, List.mem_filter, List.mem_range] at this
    exact this.1)
  have hmlen : (mems s 64).length ≤ 64 := by
    have := List.length_filter_le (fun i => s.testBit i) (List.range 64)
    simpa [mems] using this
  obtain ⟨M, hM⟩ : ∃ M, M = mems s 64 := ⟨_, rfl⟩
  rw [← hM] at HME HMB HML hmlen
  clear hm h hlk s0 hM c0 c1 c3
  go_enter Try.func56, Try.ntmps56
  go_wp2
  go_step3
  go_wp2_with fail
  refine HT.out.mono ?_
  rintro e w' ⟨rfl, rfl⟩
  go_wp2
  obtain ⟨W0, hW0⟩ : ∃ W0, W0 = w.alloc (.cells #[ptr g, .int .i64 t, .slice none 0 0, .pointer none, .int .u64 0, .int .u8 0, .nilFunc] 206) := ⟨_, rfl⟩
  rw [← hW0]
  have SB := hid (show GWB w g t [] W0 by rw [hW0]; exact GWB.start)
  have kW0 : Keep Nil w W0 := by rw [hW0]; exact (Keep.refl Nil w).alloc _
  have c2' := kW0.cell c2 (fun h => h)
  clear hW0 kW0 c2
  go_step3
  go_wp2
  go_loopg [31] n (fun gh i wr => ∃ b, b + gh = n ∧ i = .int .i64 b ∧ Hid (GWB w g t (bktTo s n b) wr))
  case atStart => exact ⟨0, by omega, rfl, SB⟩
  case round =>
    obtain ⟨b, hbg, rfl, HR⟩ := hrel
    clear SB
    cases gk with
    | zero =>
      have hkz : decide ((b : Int) < (n : Int)) = false := decide_eq_false (by omega)
      obtain rfl : b = n := by omega
      have HL := hid (show ∀ b' ∈ bktTo s b b, b' < 1000 ∧ lckErr t (base + 4 * b' + 3) 0 ws.length = 0 from fun b' hb' => ⟨by have := (mem_bkts.1 hb').1; omega, HLK.out b' hb'⟩)
      obtain ⟨v, hh, hrow, hkk, hown⟩ := HR.out
      have HLT := hid (lt_of_block hh)
      have hbg' := fun w2 (h2 : Keep Nil wr w2) => gbegin_any (lp := .pointer none) (HM.out.keep (hkk.trans h2 (fun _ _ h => h)) (fun _ _ h => h)) (h2.at hh (fun h => h)) ((hkk.trans h2 (fun _ _ h => h)).at H.out.head (fun h => h)) (lvAt_row (row_keep hrow h2 (fun _ _ h => h))) b0 b1 HL.out
      have hne : ¬ bktTo s b b = [] := HNE.out
      simp only [if_neg hne, gpc, gfn] at hbg'
      have HBG := hid hbg'
      have HK := hid hkk
      have HROW := hid hrow
      have HOWN := hid hown
      clear hbg' hh hrow hkk hown hkz hne
      go_wp2_with (go_at_call 99; refine (HBG.out _ (Keep.refl Nil _)).mono ?_; rintro e w2 ⟨rfl, lp', hd, hk2, hlk⟩; have HD := hid hd; have z5 := free_of hd 5; have z6 := free_of hd 6; have y5 := cell_of hd 5; have y6 := cell_of hd 6; have HK2 := hid hk2; have HLK2 := hid hlk; clear hd hk2 hlk)
      (try rw [Exit.noGoto_ret])
      go_ret2
      have kE := keep_set56 w2 w.heap.size (.int .u8 2) (gfn 0)
      have hD := HD.out.at 0 2 (gfn 0) rfl rfl
      refine ⟨w.heap.size, v, lp', rfl, ?_, ?_, ?_, Nat.le_refl _, fun k hk => ?_, fun b' r' hl => ?_⟩
      · rw [if_neg HNE.out]; exact hD
      · exact ((lvAt_row HROW.out).keep HK2.out (fun k hk e => by have := HOWN.out k hk; omega)).keep kE (fun k hk e => by have := HOWN.out k hk; omega)
      · exact (HK.out.trans HK2.out (fun k hk e => by omega)).trans kE (fun k hk e => by omega)
      · have := HOWN.out k hk; exact ⟨by omega, by omega⟩
      · obtain ⟨lb, h1, h2, h3⟩ := HLK2.out b' r' hl
        have := HK.out.size
        have hwb := lt_of_block HD.out
        have hz : w.heap.size < wr.heap.size := HLT.out
        refine ⟨lb, h1, by omega, by omega, fun k hk => ?_, h3.keep kE (fun e => by omega)⟩
        have := row_block HROW.out hk
        omega
    | succ gh =>
      have hkz : decide ((b : Int) < (n : Int)) = true := decide_eq_true (by omega)
      go_wp2_with (go_at_call 98; refine (HME.out _).mono ?_; rintro e w2 ⟨mv, rfl, hmv, hk2⟩; obtain ⟨ma, mc, hmv'⟩ := rd_slice hmv; subst hmv'; have HMV := hid hmv; have HR2 := hid (HR.out.keep hk2); clear hmv hk2)
      clear hkz
      go_loopg [37] M.length (fun g2 i wy => ∃ j : Nat, j + g2 = M.length ∧ i = .int .i64 j ∧ Hid ((M.drop j).any (fun v => v % n == b) = M.any (fun v => v % n == b) ∧ Keep Nil w2 wy))
      case atStart => exact ⟨0, by omega, rfl, hid ⟨rfl, Keep.refl _ _⟩⟩
      case round =>
        obtain ⟨j, hjg, rfl, HJ⟩ := hrel
        have HG := hid (HR2.out.keep HJ.out.2)
        have cg2 : wr.cell? ⟨g, 2, none⟩ = some (.int .i64 n) := by
          obtain ⟨v, -, -, h3, -⟩ := HG.out
          exact (h3.at H.out.head (fun h => h) |> fun h => by rw [cell_of h]; rfl)
        cases gk with
        | zero =>
          have hjz : decide ((j : Int) < (M.length : Int)) = false := decide_eq_false (by omega)
          have hany : M.any (fun v => v % n == b) = false := by rw [← HJ.out.1, List.drop_eq_nil_of_le (by omega)]; rfl
          have HN := hid (bkt_no (HMB.out b) hany)
          clear hany
          go_wp2
          go_roundg gh
          case measure => omega
          case rel => exact ⟨b + 1, by omega, by go_num, by rw [HN.out]; exact HG⟩
        | succ g2 =>
          have hjz : decide ((j : Int) < (M.length : Int)) = true := decide_eq_true (by omega)
          obtain ⟨v, hv⟩ : ∃ v, M[j]? = some v := ⟨_, List.getElem?_eq_getElem (by omega)⟩
          have hv64 := HML.out j v hv
          obtain ⟨mb2, mo, mc2, hve, hc⟩ := Rd.cell HMV.out (by omega)
          simp only [Value.slice.injEq] at hve
          obtain ⟨rfl, -, rfl⟩ := hve
          have cv := HJ.out.2.cell (hc j (.int .i64 v) (by simp [nums, ints, i64s, hv])) (fun h => h)
          have HBB := hid (HB.out v hv64)
          have HV := hid hv
          by_cases he : v % n = b
          · have HY := hid (bkt_yes (HMB.out b) hv he)
            rw [he] at HBB
            clear hv hc he
            obtain ⟨lv, hd, hrow, hkk, hown⟩ := HG.out
            have y2 : wr.cell? ⟨w.heap.size, 2, none⟩ = some lv := by rw [cell_of hd]; rfl
            have HD := hid hd
            have HROW := hid hrow
            have HK := hid hkk
            have HOWN := hid hown
            have hlen : (bktTo s n b).length ≤ 16 := by have := bktTo_len s n b; omega
            have hz : w.heap.size < wr.heap.size := lt_of_block hd
            clear hd hrow hkk hown HG HR2 HMV
            go_wp2_with (first
              | (go_at_call 92; refine (HBB.out _).mono ?_; rintro e w3 ⟨rfl, rfl⟩)
              | (at_builtin; refine wpList_app _ rfl (.tmp 57) (.tmp 59) 39 rfl 3 _ 1 8 Try.underlying39 infoInt rfl (by decide) lv (bktTo s n b).length (nums (bktTo s n b)) rfl ?own _ 1 [.int .i64 b] rfl ?rd ?one ?byt ?len ?_))
            case own => exact HROW.out.alloc _
            case rd => exact rd_new _ _ _ _ _ _
            case one => simp [Value.oneCell']
            case byt => omega
            case len => unfold maxLen; omega
            intro a' c' w3 ho hg3 hs3
            have hd3 : GHead w3 w.heap.size g t lv (.pointer none) 0 6 := (hg3.block _ (by simp; omega) (fun e => by have := HOWN.out _ e.symm; omega)).trans (alloc_old HD.out _)
            have z2 := free_of hd3 2
            have y2' := cell_of hd3 2
            have HD3 := hid hd3
            have HO3 := hid ho
            have HK3 := hid (Keep.grown (HK.out.alloc _) hg3 (fun j hj => .inr (by have := HOWN.out j hj; omega)))
            have HV3 := hid (show ∀ k, (Value.slice a' ((bktTo s n b).length + 1) c').ownBlock = some k → w.heap.size < k from fun k hk => by
              rcases hs3 k hk with h | h
              · exact HOWN.out k h
              · simp at h; omega)
            clear ho hg3 hs3 hd3 y2 HD HROW HK HOWN
            go_wp2
            go_roundg gh
            case measure => omega
            case rel =>
              refine ⟨b + 1, by omega, by go_num, ?_⟩
              rw [HY.out]
              have hl : (bktTo s n b ++ [b]).length = (bktTo s n b).length + 1 := by simp
              refine hid ⟨.slice a' ((bktTo s n b).length + 1) c', set_same (i := 2) HD3.out _, ?_, Keep.setCell HK3.out (.inr (Nat.le_refl _)) _, HV3.out⟩
              rw [hl, nums_snoc]
              exact ownsRow_setCell_other HO3.out (fun e => by have := HV3.out _ e; simp at this) _
          · have hne : (((v % n : Nat) : Int) == (b : Int)) = false := beq_eq_false_iff_ne.2 (by omega)
            have HD := hid (any_drop (p := fun v => v % n == b) hv (beq_eq_false_iff_ne.2 he))
            clear hv hc he
            go_wp2_with (go_at_call 92; refine (HBB.out _).mono ?_; rintro e w3 ⟨rfl, rfl⟩)
            go_roundg g2
            case measure => omega
            case rel => exact ⟨j + 1, by omega, by go_num, hid ⟨HD.out.trans HJ.out.1, HJ.out.2⟩⟩
end
end Go.Proofs.Ytihgfklajhhikaa
