/- leapfrogref31: Unlock, Held: contracts. -/
import Derived.Test.YtmafdjhjmnghcaaGreatRef31
import Derived.StillTailTactics
set_option linter.unusedVariables false
set_option linter.unusedSimpArgs false
namespace Go.Proofs.YtmafdjhjmnghcaaGreat
open Go.RowKit Go.Lf
section
variable {w w' w1 w2 : World} {B B1 F1 : Nat → Prop} {c : Cfg} {rb rm l o pb : Nat} {F G : Nat → Prop} {ws ws' : List Int} {log log' : List Acc} {s : KS} {t pc : Int}
set_option maxHeartbeats 2000000 in
theorem r31unl_arg {e : Int} (h : t < 0 ∨ 64 ≤ t) : Calls Tryz.prog 52 #[.pointer (some ⟨rb, 0, none⟩), .int .i64 t, .int .i64 e] w fun e' w' => e' = .returned (.int .i64 2) ∧ w = w' := by
  have HT := hid (fun w => thread_no t h w)
  clear h
  go_enter Tryz.func52, Tryz.ntmps52
  go_wp2_with fail
  refine (HT.out _).mono ?_
  rintro e w' ⟨rfl, rfl⟩
  go_wp2
  go_ret
  exact ⟨rfl, rfl⟩
set_option maxHeartbeats 2000000 in
theorem r31unl_range {e : Int} (h : RP w B c rb rm l F G ws log) (t0 : 0 ≤ t) (t1 : t < 64) (he : e < 0 ∨ (c.lk : Int) ≤ e) : Calls Tryz.prog 52 #[.pointer (some ⟨rb, 0, none⟩), .int .i64 t, .int .i64 e] w fun e' w' => e' = .returned (.int .i64 3) ∧ Keep Nil w w' := by
  have HT := hid (fun w => thread_yes t t0 t1 w)
  have b0 := h.c0
  have bz := h.bl
  have l13 := h.rlc3.c13
  have lz := h.rlc3.lt
  clear h
  by_cases h1 : e < 0
  · have d1 : decide (e < 0) = true := decide_eq_true h1
    clear he
    go_enter Tryz.func52, Tryz.ntmps52
    go_wp2_with fail
    refine (HT.out _).mono ?_
    rintro e w' ⟨rfl, rfl⟩
    go_wp2
    go_ret
    exact ⟨rfl, Keep.refl _ _⟩
  · have d1 : decide (e < 0) = false := decide_eq_false h1
    have d2 : decide ((c.lk : Int) ≤ e) = true := decide_eq_true (by omega)
    clear he
    go_enter Tryz.func52, Tryz.ntmps52
    go_wp2_with fail
    refine (HT.out _).mono ?_
    rintro e w' ⟨rfl, rfl⟩
    go_wp2
    go_ret
    exact ⟨rfl, Keep.refl _ _⟩
set_option maxRecDepth 100000 in
set_option maxHeartbeats 4000000 in
theorem r31unl_state (h : RP w B c rb rm l F G ws log) (hok : c.ok) (t0 : 0 ≤ t) (t1 : t < 64) (n : Nat) (hn : n < c.lk) (hx : ws[c.locks + 3 * n]? = some 0) : Calls Tryz.prog 52 #[.pointer (some ⟨rb, 0, none⟩), .int .i64 t, .int .i64 (n : Int)] w fun e' w' => e' = .returned (.int .i64 8) ∧ Keep Nil w w' := by
  have HT := hid (fun w => thread_yes t t0 t1 w)
  have hlk := hok.lk2
  have hkl : c.locks ≤ 65536 := by have := rl_words hok; obtain ⟨a1, a2, a3, a4, a5, a6, a7, a8, a9⟩ := plc_lt c; omega
  obtain ⟨AN, hAN⟩ : ∃ AN : Nat, (AN : Int) = (c.locks : Int) + 3 * (n : Int) := ⟨c.locks + 3 * n, by omega⟩
  have hxA : ws[AN]? = some 0 := by rw [show AN = c.locks + 3 * n by omega]; exact hx
  obtain ⟨gw, wc, la, lc, hr, -⟩ := h.mem.rep
  have b0 := h.c0
  have b1 := h.c1
  have bz := h.bl
  have l13 := h.rlc3.c13
  have l19 := h.rlc3.c19
  have lz := h.rlc3.lt
  have m0 := hr.cell0
  have mx := hr.word hxA
  have mz := h.mem.lt rm h.mem.has
  have gz : gw < w.heap.size := World.block_lt_of_cell? w _ mx
  have d1 : decide ((n : Int) < 0) = false := decide_eq_false (by omega)
  have d2 : decide ((c.lk : Int) ≤ (n : Int)) = false := decide_eq_false (by omega)
  have d3 : decide (c.lk ≤ n) = false := decide_eq_false (by omega)
  have w1' : IntKind.i64.wrap (3 * (n : Int)) = 3 * (n : Int) := by rw [IntKind.wrap_i64]; omega
  have w2' : IntKind.i64.wrap ((c.locks : Int) + 3 * (n : Int)) = (AN : Int) := by rw [IntKind.wrap_i64]; omega
  have j0 : (0 : Int) ≤ (AN : Int) := by omega
  have j1 : (AN : Int) < (ws.length : Int) := by have := (List.getElem?_eq_some_iff.1 hxA).1; omega
  clear h hr hx hok hxA hkl hlk hAN hn
  go_enter Tryz.func52, Tryz.ntmps52
  go_wp2_with fail
  refine (HT.out _).mono ?_
  rintro e w' ⟨rfl, rfl⟩
  go_wp2
  go_quiet (fail)
  go_wp2
  go_ret
  exact ⟨rfl, (Keep.refl Nil _).drewN nq⟩
set_option maxRecDepth 100000 in
set_option maxHeartbeats 4000000 in
theorem r31unl_ok (h : RP w B c rb rm l F G ws log) (hok : c.ok) (t0 : 0 ≤ t) (t1 : t < 64) (n : Nat) (hn : n < c.lk) (x : Int) (hx0 : x ≠ 0) (hx : ws[c.locks + 3 * n]? = some x) (hl : log.length < 1000000000) : Calls Tryz.prog 52 #[.pointer (some ⟨rb, 0, none⟩), .int .i64 t, .int .i64 (n : Int)] w fun e' w' => e' = .returned (.int .i64 0) ∧ (RStoreF c rb rm l).To w B (ws.set (c.locks + 3 * n) 0, log ++ [⟨t, (c.locks : Int) + 3 * (n : Int) + 0, 2, x, 0, false⟩]) w' := by
  have HT := hid (fun w => thread_yes t t0 t1 w)
  have hlk := hok.lk2
  have hkl : c.locks ≤ 65536 := by have := rl_words hok; obtain ⟨a1, a2, a3, a4, a5, a6, a7, a8, a9⟩ := plc_lt c; omega
  obtain ⟨AN, hAN⟩ : ∃ AN : Nat, (AN : Int) = (c.locks : Int) + 3 * (n : Int) := ⟨c.locks + 3 * n, by omega⟩
  have hAe : AN = c.locks + 3 * n := by omega
  have hxA : ws[AN]? = some x := by rw [hAe]; exact hx
  have HXA := hid hxA
  have HAE := hid (show (c.locks : Int) + 3 * (n : Int) + 0 = (AN : Int) by omega)
  have HAN := hid hAe
  obtain ⟨gw, wc, la, lc, hr, -⟩ := h.mem.rep
  have b0 := h.c0
  have b1 := h.c1
  have bz := h.bl
  have l13 := h.rlc3.c13
  have l19 := h.rlc3.c19
  have lz := h.rlc3.lt
  have m0 := hr.cell0
  have mx := hr.word hxA
  have mz := h.mem.lt rm h.mem.has
  have gz : gw < w.heap.size := World.block_lt_of_cell? w _ mx
  have d1 : decide ((n : Int) < 0) = false := decide_eq_false (by omega)
  have d2 : decide ((c.lk : Int) ≤ (n : Int)) = false := decide_eq_false (by omega)
  have d3 : decide (c.lk ≤ n) = false := decide_eq_false (by omega)
  have dx : (x == 0) = false := beq_eq_false_iff_ne.2 hx0
  have w1' : IntKind.i64.wrap (3 * (n : Int)) = 3 * (n : Int) := by rw [IntKind.wrap_i64]; omega
  have w2' : IntKind.i64.wrap ((c.locks : Int) + 3 * (n : Int)) = (AN : Int) := by rw [IntKind.wrap_i64]; omega
  have j0 : (0 : Int) ≤ (AN : Int) := by omega
  have j1 : (AN : Int) < (ws.length : Int) := by have := (List.getElem?_eq_some_iff.1 hxA).1; omega
  have H := hid h
  have HL := hid hl
  have HTT := hid (And.intro t0 t1)
  clear h hr hx hok hxA hkl hlk hAN hn hAe hx0 hl
  go_enter Tryz.func52, Tryz.ntmps52
  go_wp2_with fail
  refine (HT.out _).mono ?_
  rintro e w' ⟨rfl, rfl⟩
  go_wp2
  go_quiet (fail)
  obtain ⟨U, hU⟩ : ∃ U, U = w.drewN nq := ⟨_, rfl⟩
  rw [← hU]
  have KU := hid (show Keep Nil w U from hU ▸ (Keep.refl Nil w).drewN _)
  have HU := hid (H.out.quiet KU.out)
  have b0 := HU.out.c0
  have b1 := HU.out.c1
  have bz := HU.out.bl
  have l19 := HU.out.rlc3.c19
  have lz := HU.out.rlc3.lt
  clear hU m0 mx mz gz l13
  have KD := hid ((Keep.refl Nil U).drew)
  have HD := hid (HU.out.quiet KD.out)
  go_upto_region 9 with fail
  go_region_held3 (fun w' => w'.cell? ⟨rb, 0, none⟩ = some (.pointer (some ⟨l, 0, none⟩)) ∧ w'.cell? ⟨rb, 1, none⟩ = some (.pointer (some ⟨rm, 0, none⟩)) ∧ w'.cell? ⟨l, 19, none⟩ = some (.int .i64 c.locks)) (first | (exact s9; done) | go_keep)
    (first
      | (go_at_call 98; (with_reducible refine (rstore_ok HD.out.mem t (AN : Int) x 0 HTT.out.1 HTT.out.2 (Int.natCast_nonneg _) (by rw [Int.toNat_natCast]; exact HXA.out) (by have := HL.out; omega)).mono ?_); rintro e w10 ⟨rfl, hto⟩; have hq := HD.out.turn3 hto; have HQ := hid hq; have s9 : w10.cell? ⟨rb, 0, none⟩ = some (.pointer (some ⟨l, 0, none⟩)) ∧ w10.cell? ⟨rb, 1, none⟩ = some (.pointer (some ⟨rm, 0, none⟩)) ∧ w10.cell? ⟨l, 19, none⟩ = some (.int .i64 c.locks) := ⟨hq.choose_spec.choose_spec.1.c0, hq.choose_spec.choose_spec.1.c1, hq.choose_spec.choose_spec.1.rlc3.c19⟩; clear hto hq))
  go_wp2
  go_ret
  rw [Int.toNat_natCast] at HQ
  obtain ⟨F', B', h1, h2, h3⟩ := HQ.out
  rw [HAN.out, show ((c.locks + 3 * n : Nat) : Int) = (c.locks : Int) + 3 * (n : Int) + 0 by omega] at h1
  have hkk := KU.out.trans KD.out (fun _ _ h => h)
  exact ⟨rfl, B', ⟨F', G, h1⟩, (hkk.mono (T := B) (fun _ _ h => h.elim)).trans h2 (fun _ _ h => h), fun k hk => (h3 k hk).imp id (fun h => by have := hkk.size; omega)⟩
/-- Ranges are returned. -/
def R31HeldTo (w : World) (l : List (Int × Int)) (e : Ending) (w' : World) : Prop :=
  ∃ a cp, e = .returned (.slice a l.length cp) ∧ Rd w' 2 (.slice a l.length cp) l.length (spnCells l) ∧ Keep Nil w w'
set_option maxRecDepth 100000 in
set_option maxHeartbeats 8000000 in
theorem r31held (h : RP w B c rb rm l F G ws log) (hok : c.ok) (hw : WdOk c ws) : Calls Tryz.prog 57 #[.pointer (some ⟨rb, 0, none⟩)] w (R31HeldTo w (heldP c.locks ws c.lk)) := by
  obtain ⟨gw, wc, la, lc, hr, -⟩ := h.mem.rep
  have H := hid h
  have HR := hid hr
  have HWC := hid (show ws.length ≤ wc ∧ wc ≤ maxLen from by
    rcases hr.wrow.2 with ⟨e1, -⟩ | ⟨g, cap, cur, e1, -, -, h3, h4, -, -⟩
    · cases e1
    · simp only [Value.slice.injEq] at e1
      obtain ⟨-, -, rfl⟩ := e1
      exact ⟨h3, h4⟩)
  have HB := hid (show c.lk ≤ 16 ∧ c.locks + 3 * c.lk ≤ ws.length ∧ c.locks ≤ 65536 ∧ ws.length ≤ 65536 from by
    have h1 := c.le1; have h2 := c.le2; have h3 := c.le3
    obtain ⟨-, -, -, hq0, hq1, hq2, hq3, hq4, hq5⟩ := plc_lt c
    have := rl_words hok
    have := hw.len
    exact ⟨hok.lk2, by omega, by omega, by omega⟩)
  clear h hr hok hw
  go_enter Tryz.func57, Tryz.ntmps57
  go_wp2
  go_loopw [3, 4] (fun o i wz => ∃ (k : Nat) (a : Option Addr) (cp : Nat), k ≤ c.lk ∧ i = .int .i64 k ∧ o = .slice a (heldP c.locks ws k).length cp ∧ wz.ownsRow 0 28 2 (.slice a (heldP c.locks ws k).length cp) (heldP c.locks ws k).length (spnCells (heldP c.locks ws k)) ∧ (∀ q, (Value.slice a (heldP c.locks ws k).length cp).ownBlock = some q → w.heap.size ≤ q) ∧ Keep Nil w wz) (fun _ i _ => c.lk - (intOf i).toNat)
  case atStart => exact ⟨0, none, 0, Nat.zero_le _, rfl, rfl, ⟨rfl, .inl ⟨rfl, rfl⟩⟩, fun q h => (by cases h), Keep.refl Nil w⟩
  case round =>
    obtain ⟨k, a', cp', hk, rfl, hoo, hrow, hnew, hkw⟩ := hrel
    subst hoo
    have HROW := hid hrow
    have HNEW := hid hnew
    have HKW := hid hkw
    have HZ := hid (H.out.quiet hkw)
    have b0 := HZ.out.c0
    have b1 := HZ.out.c1
    have bz := HZ.out.bl
    have l13 := HZ.out.rlc3.c13
    have l19 := HZ.out.rlc3.c19
    have lz := HZ.out.rlc3.lt
    have m0 := hkw.cell HR.out.cell0 (fun h => h)
    have mz : rm < wr.heap.size := HZ.out.mem.lt rm HZ.out.mem.has
    clear hrow hnew
    obtain ⟨h16, hln, hkl, hl65⟩ := HB.out
    by_cases hlt : k < c.lk
    · have d1 : decide ((k : Int) < (c.lk : Int)) = true := decide_eq_true (by omega)
      have e1 : decide (k < c.lk) = true := decide_eq_true hlt
      have wk1 : IntKind.i64.wrap ((k : Int) + 1) = (k : Int) + 1 := by rw [IntKind.wrap_i64]; omega
      obtain ⟨AN, hAN⟩ : ∃ AN : Nat, (AN : Int) = (c.locks : Int) + 3 * (k : Int) := ⟨c.locks + 3 * k, by omega⟩
      have hAe : AN = c.locks + 3 * k := by omega
      have w1' : IntKind.i64.wrap (3 * (k : Int)) = 3 * (k : Int) := by rw [IntKind.wrap_i64]; omega
      have w2' : IntKind.i64.wrap ((c.locks : Int) + 3 * (k : Int)) = (AN : Int) := by rw [IntKind.wrap_i64]; omega
      obtain ⟨x0, hx0⟩ : ∃ x, ws[AN]? = some x := ⟨_, List.getElem?_eq_getElem (by omega)⟩
      obtain ⟨x1, hx1⟩ : ∃ x, ws[AN + 1]? = some x := ⟨_, List.getElem?_eq_getElem (by omega)⟩
      obtain ⟨x2, hx2⟩ : ∃ x, ws[AN + 2]? = some x := ⟨_, List.getElem?_eq_getElem (by omega)⟩
      have y0 := hkw.cell (HR.out.word hx0) (fun h => h)
      have y1 := hkw.cell (HR.out.word hx1) (fun h => h)
      have y2 := hkw.cell (HR.out.word hx2) (fun h => h)
      have gz : gw < wr.heap.size := World.block_lt_of_cell? wr _ y0
      have j0 : (0 : Int) ≤ (AN : Int) := by omega
      have j1 : (AN : Int) ≤ (ws.length : Int) := by omega
      have j2 : AN ≤ ws.length := by omega
      have j3 : 2 < ws.length - AN := by omega
      have j4 : AN < wc := by have := HWC.out.1; omega
      have j5 : AN ≤ wc := by omega
      have j6 : wc - AN ≠ 0 := by omega
      have j7 : (wc - AN == 0) = false := beq_eq_false_iff_ne.2 j6
      have j8 : ws.length ≤ wc := HWC.out.1
      have j9 : (AN : Int) ≤ (wc : Int) := by omega
      have j10 : AN ≠ wc := by omega
      have j11 : ¬ wc ≤ AN := by omega
      have j12 : (0 : Int) < ((ws.length - AN : Nat) : Int) := by omega
      have j13 : 0 < ws.length - AN := by omega
      have j15 : (1 : Int) < ((ws.length - AN : Nat) : Int) := by omega
      have j16 : (2 : Int) < ((ws.length - AN : Nat) : Int) := by omega
      have j14 : 1 < ws.length - AN := by omega
      have hstep : heldP c.locks ws (k + 1) = heldP c.locks ws k ++ (if x0 = 0 then [] else [(x1, x2)]) := by
        rw [heldP, ← hAe, hx0, hx1, hx2]; rfl
      have HST := hid hstep
      have HPL := hid (heldP_len c.locks ws k)
      obtain ⟨P, hP⟩ : ∃ P, P = heldP c.locks ws k := ⟨_, rfl⟩
      rw [← hP] at HROW HNEW HST HPL ⊢
      have HLT := hid (And.intro hlt h16)
      clear hx0 hx1 hx2 hstep hP hk hAN hAe h16 hln hkl hl65 hkw
      by_cases hz : x0 = 0
      · have dz : (x0 != 0) = false := by simpa using hz
        have HST2 := hid (show heldP c.locks ws (k + 1) = P by rw [HST.out, if_pos hz, List.append_nil])
        clear hz
        go_wp2
        go_quiet (fail)
        go_wp2
        go_roundw
        case rel => exact ⟨k + 1, a', cp', by have := HLT.out; omega, by go_num, by rw [HST2.out], by rw [HST2.out]; exact row_keep HROW.out ((Keep.refl Nil _).drewN nq) (fun _ _ h => h), by rw [HST2.out]; exact HNEW.out, HKW.out.drewN nq⟩
        case measure => have := HLT.out; simp [intOf]; omega
      · have dz : (x0 != 0) = true := by simpa using hz
        have HST2 := hid (show heldP c.locks ws (k + 1) = P ++ [(x1, x2)] by rw [HST.out, if_neg hz])
        clear hz
        go_wp2
        go_quiet (fail)
        obtain ⟨U, hU⟩ : ∃ U, U = wr.drewN nq := ⟨_, rfl⟩
        rw [← hU]
        have KU := hid (show Keep Nil wr U from hU ▸ (Keep.refl Nil wr).drewN _)
        have HRU := hid (row_keep HROW.out KU.out (fun _ _ h => h))
        have y0 := KU.out.cell y0 (fun h => h)
        have y1 := KU.out.cell y1 (fun h => h)
        have y2 := KU.out.cell y2 (fun h => h)
        have gz : gw < U.heap.size := by have := KU.out.size; omega
        clear hU b0 b1 bz l13 l19 lz m0 mz
        go_upto_region 7 with fail
        go_region_law (refine step_app _ rfl (.tmp 45) (.tmp 53) 35 rfl 28 _ 2 16 Tryz.underlying35 infoSpan rfl (by decide) (.slice a' P.length cp') P.length (spnCells P) (by simp [Act.eval]) ((row_drew HRU.out).alloc _) _ 1 [.int .u64 x1, .int .u64 x2] (by simp [Act.eval]) (rd_new _ _ _ _ _ _) (by simp [Value.oneCell']) (by have := HPL.out; have := HLT.out; omega) (by have := HPL.out; have := HLT.out; unfold maxLen; omega) ?_; intro a2 c2 w5 ho hgr hs; have HO := hid ho; have HGR := hid hgr; have HHS := hid hs; clear ho hgr hs)
        all_goals
          have HN2 := hid (show ∀ q, (Value.slice a2 (P.length + 1) c2).ownBlock = some q → w.heap.size ≤ q from fun q hq => by
            rcases HHS.out q hq with h | h
            · exact HNEW.out q h
            · have := HKW.out.size; have := KU.out.size; simp at h; omega)
          have HK7 := hid (show Keep Nil w w5 from (((HKW.out.trans KU.out (fun _ _ h => h)).drew).alloc _).grown HGR.out (fun q hq => .inr (HNEW.out q hq)))
          go_wp2
          go_roundw
          case rel => exact ⟨k + 1, a2, c2, by have := HLT.out; omega, by go_num, by rw [HST2.out, List.length_append]; rfl, by rw [HST2.out, List.length_append]; simpa [spnCells] using HO.out, by rw [HST2.out, List.length_append]; exact HN2.out, HK7.out⟩
          case measure => have := HLT.out; simp [intOf]; omega
    · have hkn : k = c.lk := by omega
      subst hkn
      have d1 : decide ((c.lk : Int) < (c.lk : Int)) = false := decide_eq_false (by omega)
      clear hlt hk hkw
      go_wp2
      go_ret
      exact ⟨a', cp', rfl, row_rd HROW.out, HKW.out⟩
end
end Go.Proofs.YtmafdjhjmnghcaaGreat
