/- ranges: Unlock, Held. -/
import Derived.Test.YtmafdjhjmnghcaaGreatRngNew
set_option linter.unusedVariables false
set_option linter.unusedSimpArgs false
namespace Go.Lf
/-- The ranges that are held, of the first n entries. -/
def heldP (T : Nat) (ws : List Int) : Nat → List (Int × Int)
  | 0 => []
  | n + 1 => heldP T ws n ++ (if (ws[T + 3 * n]?).getD 0 = 0 then [] else [((ws[T + 3 * n + 1]?).getD 0, (ws[T + 3 * n + 2]?).getD 0)])
def spnCells (l : List (Int × Int)) : List Go.Value := l.flatMap fun x => [.int .u64 x.1, .int .u64 x.2]
theorem heldP_len (T : Nat) (ws : List Int) : ∀ n, (heldP T ws n).length ≤ n
  | 0 => Nat.le_refl 0
  | n + 1 => by
    have := heldP_len T ws n
    unfold heldP
    split <;> simp <;> omega
end Go.Lf
namespace Go.Proofs.YtmafdjhjmnghcaaGreat
open Go.RowKit Go.Lf
attribute [local go_sem] fld0 fld1 fld2 fld3 fld4 fld5 fld6 fld7 fld8 fld9 fldc fldl
theorem infoSpan : (Tryz.prog.info? 28).map (fun i => (i.zero, i.size, i.bytes)) = some (some (.agg #[.int .u64 0, .int .u64 0]), 2, 16) := by kernel_rfl
section
variable {w w1 w2 w' : World} {A : Nat → Prop} {c : Cfg} {b mb L : Nat} {F G : Nat → Prop} {ws ws' : List Int} {log log' : List Acc}
theorem swk_peek {wr : World} (h : SW w wr c b mb ws log) (a x : Int) (a0 : 0 ≤ a) (hx : ws[a.toNat]? = some x) : Calls Tryz.prog 26 #[.pointer (some ⟨mb, 0, none⟩), .int .i64 a] wr fun e w' => e = .returned (.tuple #[.int .u64 x, .bool true]) ∧ wr = w' := by
  obtain ⟨⟨A, ⟨L, F, G, hsp⟩, hA⟩, hown⟩ := h
  exact peek_ok hsp.mem a x a0 hx
theorem kunlock_nil (t e : Int) : Calls Tryz.prog 16 #[.pointer none, .int .i64 t, .int .i64 e] w fun e' w' => e' = .returned (.int .i64 1) ∧ w = w' := by
  go_enter Tryz.func16, Tryz.ntmps16
  go_wp2
  go_ret
  exact ⟨rfl, rfl⟩
set_option maxHeartbeats 2000000 in
theorem kunlock_arg (t e : Int) (h : t < 0 ∨ 64 ≤ t) : Calls Tryz.prog 16 #[.pointer (some ⟨b, 0, none⟩), .int .i64 t, .int .i64 e] w fun e' w' => e' = .returned (.int .i64 2) ∧ w = w' := by
  by_cases h1 : t < 0
  · have d1 : decide (t < 0) = true := decide_eq_true h1
    clear h
    go_enter Tryz.func16, Tryz.ntmps16
    go_wp2
    go_ret
    exact ⟨rfl, rfl⟩
  · have d1 : decide (t < 0) = false := decide_eq_false h1
    have d2 : decide (64 ≤ t) = true := decide_eq_true (by omega)
    clear h
    go_enter Tryz.func16, Tryz.ntmps16
    go_wp2
    go_ret
    exact ⟨rfl, rfl⟩
set_option maxRecDepth 100000 in
set_option maxHeartbeats 2000000 in
theorem kunlock_range (h : SP w A c b mb L F G ws log) (hok : c.ok) (t e : Int) (t0 : 0 ≤ t) (t1 : t < 64) (he : e < 0 ∨ (c.lk : Int) ≤ e) : Calls Tryz.prog 16 #[.pointer (some ⟨b, 0, none⟩), .int .i64 t, .int .i64 e] w fun e' w' => e' = .returned (.int .i64 3) ∧ Keep Nil w w' := by
  have d1 : decide (t < 0) = false := decide_eq_false (by omega)
  have d2 : decide (64 ≤ t) = false := decide_eq_false (by omega)
  have H := hid h
  have HC := hid hok
  clear h hok
  by_cases h1 : e < 0
  · have d3 : decide (e < 0) = true := decide_eq_true h1
    clear he
    go_enter Tryz.func16, Tryz.ntmps16
    go_wp2
    go_ret
    exact ⟨rfl, Keep.refl _ _⟩
  · have d3 : decide (e < 0) = false := decide_eq_false h1
    have d4 : decide ((c.lk : Int) ≤ e) = true := decide_eq_true (by omega)
    clear he
    go_enter Tryz.func16, Tryz.ntmps16
    go_wp2_with fail
    refine (bconfig_ok H.out HC.out).mono ?_
    rintro e' w1 ⟨t1', t2, t3, t4, t5, t6, a, cp, rfl, hk1⟩
    have HK := hid hk1
    clear hk1
    go_wp2
    go_ret
    exact ⟨rfl, HK.out⟩
set_option maxRecDepth 100000 in
set_option maxHeartbeats 2000000 in
theorem kunlock_state (h : SP w A c b mb L F G ws log) (hok : c.ok) (t : Int) (t0 : 0 ≤ t) (t1 : t < 64) (e : Nat) (he : e < c.lk) (hx : ws[c.locks + 3 * e]? = some 0) : Calls Tryz.prog 16 #[.pointer (some ⟨b, 0, none⟩), .int .i64 t, .int .i64 e] w fun e' w' => e' = .returned (.int .i64 8) ∧ Keep Nil w w' := by
  have d1 : decide (t < 0) = false := decide_eq_false (by omega)
  have d2 : decide (64 ≤ t) = false := decide_eq_false (by omega)
  have d3 : decide ((e : Int) < 0) = false := decide_eq_false (by omega)
  have d4 : decide ((c.lk : Int) ≤ (e : Int)) = false := decide_eq_false (by omega)
  have e4 : decide (c.lk ≤ e) = false := decide_eq_false (by omega)
  have n4 : ¬ (c.lk ≤ e) := by omega
  have H := hid h
  have HC := hid hok
  have hlk := hok.lk2
  have he16 : (e : Int) ≤ 16 := by omega
  have hn : ((c.locks : Int) + 3 * (e : Int) + 0).toNat = c.locks + 3 * e := by omega
  have HX := hid (show ws[((c.locks : Int) + 3 * (e : Int) + 0).toNat]? = some 0 by rw [hn]; exact hx)
  have HP := hid (show 0 ≤ (c.locks : Int) + 3 * (e : Int) + 0 by omega)
  have he0 : (0 : Int) ≤ (e : Int) := by omega
  clear h hok hx hn hlk
  go_enter Tryz.func16, Tryz.ntmps16
  go_wp2_with fail
  refine (bconfig_ok H.out HC.out).mono ?_
  rintro e' w1 ⟨t1', t2, t3, t4, t5, t6, a, cp, rfl, hk1⟩
  have H1 := hid (H.out.quiet hk1)
  have HK := hid hk1
  clear hk1
  go_wp2_with fail
  refine (bmem_ok H1.out).mono ?_
  rintro e' w2 ⟨rfl, rfl⟩
  go_wp2_with fail
  refine (kaddr_ok H1.out HC.out (e : Int) 0 he0 he16 (by decide) (by decide)).mono ?_
  rintro e' w2 ⟨rfl, hk2⟩
  have H2 := hid (H1.out.quiet hk2)
  have HK2 := hid (HK.out.trans hk2 (fun _ _ h => h))
  clear hk2
  go_wp2_with fail
  refine (peek_ok H2.out.mem _ 0 HP.out HX.out).mono ?_
  rintro e' w3 ⟨rfl, rfl⟩
  go_wp2
  go_ret
  exact ⟨rfl, HK2.out⟩
def UnlTo (w : World) (A : Nat → Prop) (c : Cfg) (b mb : Nat) (ws' : List Int) (log' : List Acc) (e : Ending) (w' : World) : Prop := e = .returned (.int .i64 0) ∧ (StoreL c b mb).To w A (ws', log') w'
set_option maxRecDepth 100000 in
set_option maxHeartbeats 2000000 in
theorem kunlock_ok (h : SP w A c b mb L F G ws log) (hok : c.ok) (t : Int) (t0 : 0 ≤ t) (t1 : t < 64) (e : Nat) (he : e < c.lk) (x : Int) (hx0 : x ≠ 0) (hx : ws[c.locks + 3 * e]? = some x) (hl : log.length < 1000000000) :
    Calls Tryz.prog 16 #[.pointer (some ⟨b, 0, none⟩), .int .i64 t, .int .i64 e] w (UnlTo w A c b mb (ws.set (c.locks + 3 * e) 0) (log ++ [⟨t, (c.locks : Int) + 3 * (e : Int) + 0, 2, x, 0, false⟩])) := by
  have d1 : decide (t < 0) = false := decide_eq_false (by omega)
  have d2 : decide (64 ≤ t) = false := decide_eq_false (by omega)
  have d3 : decide ((e : Int) < 0) = false := decide_eq_false (by omega)
  have d4 : decide ((c.lk : Int) ≤ (e : Int)) = false := decide_eq_false (by omega)
  have e4 : decide (c.lk ≤ e) = false := decide_eq_false (by omega)
  have n4 : ¬ (c.lk ≤ e) := by omega
  have dx : (x == 0) = false := beq_eq_false_iff_ne.2 hx0
  have H := hid h
  have HC := hid hok
  have HL := hid hl
  have hlk := hok.lk2
  have he16 : (e : Int) ≤ 16 := by omega
  have hn : ((c.locks : Int) + 3 * (e : Int) + 0).toNat = c.locks + 3 * e := by omega
  have HX := hid (show ws[((c.locks : Int) + 3 * (e : Int) + 0).toNat]? = some x by rw [hn]; exact hx)
  have HP := hid (show 0 ≤ (c.locks : Int) + 3 * (e : Int) + 0 by omega)
  have HNN := hid hn
  have he0 : (0 : Int) ≤ (e : Int) := by omega
  clear h hok hx hn hlk hl hx0
  go_enter Tryz.func16, Tryz.ntmps16
  go_wp2_with fail
  refine (bconfig_ok H.out HC.out).mono ?_
  rintro e' w1 ⟨t1', t2, t3, t4, t5, t6, a, cp, rfl, hk1⟩
  have H1 := hid (H.out.quiet hk1)
  have HK := hid hk1
  clear hk1
  go_wp2_with fail
  refine (bmem_ok H1.out).mono ?_
  rintro e' w2 ⟨rfl, rfl⟩
  go_wp2_with fail
  refine (kaddr_ok H1.out HC.out (e : Int) 0 he0 he16 (by decide) (by decide)).mono ?_
  rintro e' w2 ⟨rfl, hk2⟩
  have H2 := hid (H1.out.quiet hk2)
  have HK2 := hid (HK.out.trans hk2 (fun _ _ h => h))
  clear hk2 H1 HK
  go_wp2_with fail
  refine (peek_ok H2.out.mem _ x HP.out HX.out).mono ?_
  rintro e' w3 ⟨rfl, rfl⟩
  go_wp2_with fail
  refine (bmem_ok H2.out).mono ?_
  rintro e' w3 ⟨rfl, rfl⟩
  go_wp2_with fail
  refine (kaddr_ok H2.out HC.out (e : Int) 0 he0 he16 (by decide) (by decide)).mono ?_
  rintro e' w3 ⟨rfl, hk3⟩
  have H3 := hid (H2.out.quiet hk3)
  have HK3 := hid (HK2.out.trans hk3 (fun _ _ h => h))
  clear hk3 H2 HK2
  go_wp2_with fail
  refine (store_ok H3.out.mem t _ x 0 t0 t1 HP.out HX.out (Nat.lt_trans HL.out (by decide))).mono ?_
  rintro e' w4 ⟨rfl, hm⟩
  rw [HNN.out] at hm
  have HM := hid (H.out.turn HK3.out hm)
  clear hm
  go_wp2
  go_ret
  exact ⟨rfl, HM.out⟩
theorem held_nil : Calls Tryz.prog 17 #[.pointer none] w fun e' w' => e' = .returned (.slice none 0 0) ∧ w = w' := by
  go_enter Tryz.func17, Tryz.ntmps17
  go_wp2
  go_ret
  exact ⟨rfl, rfl⟩
/-- Ranges are returned. -/
def HeldTo (w : World) (l : List (Int × Int)) (e : Ending) (w' : World) : Prop :=
  ∃ a cp, e = .returned (.slice a l.length cp) ∧ Rd w' 2 (.slice a l.length cp) l.length (spnCells l) ∧ Keep Nil w w' ∧ ∀ k, (Value.slice a l.length cp).ownBlock = some k → w.heap.size ≤ k ∧ k < w'.heap.size
def HeldOw (w : World) (l : List (Int × Int)) (e : Ending) (w' : World) : Prop :=
  ∃ a cp, e = .returned (.slice a l.length cp) ∧ w'.ownsRow 0 28 2 (.slice a l.length cp) l.length (spnCells l) ∧ Keep Nil w w' ∧ ∀ k, (Value.slice a l.length cp).ownBlock = some k → w.heap.size ≤ k
set_option maxRecDepth 100000 in
set_option maxHeartbeats 4000000 in
theorem held_own (h : SP w A c b mb L F G ws log) (hok : c.ok) (hlen : c.words ≤ ws.length) : Calls Tryz.prog 17 #[.pointer (some ⟨b, 0, none⟩)] w (HeldOw w (heldP c.locks ws c.lk)) := by
  have H := hid h
  have HC := hid hok
  have HB := hid (show c.lk ≤ 16 ∧ c.locks + 3 * c.lk ≤ ws.length from ⟨hok.lk2, by
    have h1 := c.le1; have h2 := c.le2; have h3 := c.le3
    obtain ⟨-, -, -, hq0, hq1, hq2, hq3, hq4, hq5⟩ := plc_lt c
    omega⟩)
  clear h hok hlen
  go_enter Tryz.func17, Tryz.ntmps17
  go_wp2_with fail
  refine (bconfig_ok H.out HC.out).mono ?_
  rintro e' w1 ⟨t1', t2, t3, t4, t5, t6, a, cp, rfl, hk1⟩
  have HK := hid hk1
  clear hk1
  go_wp2
  go_loopw [3, 16] (fun o i wz => ∃ (k : Nat) (a : Option Addr) (cp : Nat), k ≤ c.lk ∧ i = .int .i64 k ∧ o = .slice a (heldP c.locks ws k).length cp ∧ wz.ownsRow 0 28 2 (.slice a (heldP c.locks ws k).length cp) (heldP c.locks ws k).length (spnCells (heldP c.locks ws k)) ∧ (∀ q, (Value.slice a (heldP c.locks ws k).length cp).ownBlock = some q → w.heap.size ≤ q) ∧ Keep Nil w wz) (fun _ i _ => c.lk - (intOf i).toNat)
  case atStart => exact ⟨0, none, 0, Nat.zero_le _, rfl, rfl, ⟨rfl, .inl ⟨rfl, rfl⟩⟩, fun q h => (by cases h), HK.out⟩
  case round =>
    obtain ⟨k, a', cp', hk, rfl, hoo, hrow, hnew, hkw⟩ := hrel
    subst hoo
    have HROW := hid hrow
    have HNEW := hid hnew
    have HKW := hid hkw
    have HS := hid (H.out.quiet hkw)
    clear hrow hnew hkw HK
    by_cases hlt : k < c.lk
    · have d1 : decide ((k : Int) < (c.lk : Int)) = true := decide_eq_true (by omega)
      have e1 : decide (k < c.lk) = true := decide_eq_true hlt
      have hb := HB.out
      have hk16 : (k : Int) ≤ 16 := by omega
      have hk0 : (0 : Int) ≤ (k : Int) := by omega
      have wk1 : IntKind.i64.wrap ((k : Int) + 1) = (k : Int) + 1 := by rw [IntKind.wrap_i64]; omega
      obtain ⟨x0, hx0⟩ : ∃ x, ws[c.locks + 3 * k]? = some x := ⟨_, List.getElem?_eq_getElem (by omega)⟩
      obtain ⟨x1, hx1⟩ : ∃ x, ws[c.locks + 3 * k + 1]? = some x := ⟨_, List.getElem?_eq_getElem (by omega)⟩
      obtain ⟨x2, hx2⟩ : ∃ x, ws[c.locks + 3 * k + 2]? = some x := ⟨_, List.getElem?_eq_getElem (by omega)⟩
      have hstep : heldP c.locks ws (k + 1) = heldP c.locks ws k ++ (if x0 = 0 then [] else [(x1, x2)]) := by
        rw [heldP, hx0, hx1, hx2]; rfl
      have q0 : ((c.locks : Int) + 3 * (k : Int) + 0).toNat = c.locks + 3 * k := by omega
      have q1 : ((c.locks : Int) + 3 * (k : Int) + 1).toNat = c.locks + 3 * k + 1 := by omega
      have q2 : ((c.locks : Int) + 3 * (k : Int) + 2).toNat = c.locks + 3 * k + 2 := by omega
      have HX0 := hid (show ws[((c.locks : Int) + 3 * (k : Int) + 0).toNat]? = some x0 by rw [q0]; exact hx0)
      have HX1 := hid (show ws[((c.locks : Int) + 3 * (k : Int) + 1).toNat]? = some x1 by rw [q1]; exact hx1)
      have HX2 := hid (show ws[((c.locks : Int) + 3 * (k : Int) + 2).toNat]? = some x2 by rw [q2]; exact hx2)
      have HP := hid (show 0 ≤ (c.locks : Int) + 3 * (k : Int) + 0 ∧ 0 ≤ (c.locks : Int) + 3 * (k : Int) + 1 ∧ 0 ≤ (c.locks : Int) + 3 * (k : Int) + 2 by omega)
      have HST := hid hstep
      have HPL := hid (heldP_len c.locks ws k)
      obtain ⟨P, hP⟩ : ∃ P, P = heldP c.locks ws k := ⟨_, rfl⟩
      rw [← hP] at HROW HNEW HST HPL ⊢
      have HK16 := hid hk16
      have HLT := hid hlt
      clear hb hx0 hx1 hx2 hstep q0 q1 q2 hP hk
      go_wp2_with fail
      refine (bmem_ok HS.out).mono ?_
      rintro e' w2 ⟨rfl, rfl⟩
      go_wp2_with fail
      refine (kaddr_ok HS.out HC.out (k : Int) 0 hk0 hk16 (by decide) (by decide)).mono ?_
      rintro e' w2 ⟨rfl, hk2⟩
      have H2 := hid (HS.out.quiet hk2)
      have HK2 := hid hk2
      clear hk2
      go_wp2_with fail
      refine (peek_ok H2.out.mem _ x0 HP.out.1 HX0.out).mono ?_
      rintro e' w3 ⟨rfl, rfl⟩
      by_cases hz : x0 = 0
      · have dz : (x0 != 0) = false := by simpa using hz
        have HST2 := hid (show heldP c.locks ws (k + 1) = P by rw [HST.out, if_pos hz, List.append_nil])
        clear hz
        go_wp2
        go_roundw
        case rel => exact ⟨k + 1, a', cp', by have := HLT.out; omega, by go_num, by rw [HST2.out], by rw [HST2.out]; exact row_keep HROW.out HK2.out (fun _ _ h => h), by rw [HST2.out]; exact HNEW.out, HKW.out.trans HK2.out (fun _ _ h => h)⟩
        case measure => have := HLT.out; simp [intOf]; omega
      · have dz : (x0 != 0) = true := by simpa using hz
        have HST2 := hid (show heldP c.locks ws (k + 1) = P ++ [(x1, x2)] by rw [HST.out, if_neg hz])
        clear hz
        go_wp2_with fail
        refine (bmem_ok H2.out).mono ?_
        rintro e' w4 ⟨rfl, rfl⟩
        go_wp2_with fail
        refine (kaddr_ok H2.out HC.out (k : Int) 1 hk0 hk16 (by decide) (by decide)).mono ?_
        rintro e' w4 ⟨rfl, hk4⟩
        have H4 := hid (H2.out.quiet hk4)
        have HK4 := hid (HK2.out.trans hk4 (fun _ _ h => h))
        clear hk4
        go_wp2_with fail
        refine (peek_ok H4.out.mem _ x1 HP.out.2.1 HX1.out).mono ?_
        rintro e' w5 ⟨rfl, rfl⟩
        go_wp2_with fail
        refine (bmem_ok H4.out).mono ?_
        rintro e' w5 ⟨rfl, rfl⟩
        go_wp2_with fail
        refine (kaddr_ok H4.out HC.out (k : Int) 2 hk0 hk16 (by decide) (by decide)).mono ?_
        rintro e' w5 ⟨rfl, hk5⟩
        have H5 := hid (H4.out.quiet hk5)
        have HK5 := hid (HK4.out.trans hk5 (fun _ _ h => h))
        clear hk5
        go_wp2_with fail
        refine (peek_ok H5.out.mem _ x2 HP.out.2.2 HX2.out).mono ?_
        rintro e' w6 ⟨rfl, rfl⟩
        go_wp2_with (at_builtin; refine wpList_app _ rfl (.tmp 48) (.tmp 52) 35 rfl 28 _ 2 16 Tryz.underlying35 infoSpan rfl (by decide) (.slice a' P.length cp') P.length (spnCells P) rfl ?own (.slice (some ⟨w5.heap.size, 0, none⟩) 1 1) 1 [.int .u64 x1, .int .u64 x2] rfl ?rd ?one ?byt ?len ?_)
        case own => exact row_keep HROW.out (HK5.out.alloc _) (fun _ _ h => h)
        case rd => exact rd_new _ _ _ _ _ _
        case one => simp [Value.oneCell']
        case byt => have := HPL.out; have := HK16.out; omega
        case len => have := HPL.out; have := HK16.out; unfold maxLen; omega
        intro a2 cp2 w7 ho hgr hs
        have HO := hid ho
        have HN2 := hid (show ∀ q, (Value.slice a2 (P.length + 1) cp2).ownBlock = some q → w.heap.size ≤ q from fun q hq => by
          rcases hs q hq with h | h
          · exact HNEW.out q h
          · have := HKW.out.size; have := HK5.out.size; simp at h; omega)
        have HK7 := hid (show Keep Nil w w7 from ((HKW.out.trans HK5.out (fun _ _ h => h)).alloc _).grown hgr (fun q hq => .inr (HNEW.out q hq)))
        clear ho hgr hs
        go_wp2
        go_roundw
        case rel => exact ⟨k + 1, a2, cp2, by have := HLT.out; omega, by go_num, by rw [HST2.out, List.length_append]; rfl, by rw [HST2.out, List.length_append]; simpa [spnCells] using HO.out, by rw [HST2.out, List.length_append]; exact HN2.out, HK7.out⟩
        case measure => have := HLT.out; simp [intOf]; omega
    · have hkn : k = c.lk := by omega
      subst hkn
      have d1 : decide ((c.lk : Int) < (c.lk : Int)) = false := decide_eq_false (by omega)
      clear hlt hk
      go_wp2
      go_ret
      exact ⟨a', cp', rfl, HROW.out, HKW.out, HNEW.out⟩
theorem held_ok (h : SP w A c b mb L F G ws log) (hok : c.ok) (hlen : c.words ≤ ws.length) : Calls Tryz.prog 17 #[.pointer (some ⟨b, 0, none⟩)] w (HeldTo w (heldP c.locks ws c.lk)) :=
  (held_own h hok hlen).mono fun e w' ⟨a, cp, h1, h2, h3, h4⟩ => ⟨a, cp, h1, row_rd h2, h3, fun q hq => ⟨h4 q hq, row_lt h2 q hq⟩⟩
end
end Go.Proofs.YtmafdjhjmnghcaaGreat
