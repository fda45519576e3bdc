/- LatchExcludes: the walk. -/
import Derived.Test.YtckopbjejjeknaaExclPlain
import Derived.Test.YtckopbjejjeknaaIndex
import Derived.Deep.DeepCutAuto
namespace Go.Proofs.Ytckopbjejjeknaa
open Go.RowKit Go.Lf

theorem lck0 {t : Nat} (ht : t < 8) {n : Int} (h0 : 0 ≤ n) (h1 : n ≤ 255) (x : Int) : lckErr t 0 n ([x] : List Int).length = 0 := lckErr_ok ⟨by omega, by omega, h0, h1⟩ ⟨by omega, by simp⟩

theorem ptr_nil {P : Program} (w : World) {t te : TypeId} (h : P.underlying t = some (.pointer te)) (r : Option Nat) : (binOp .eql t (ptrV r) (.pointer none)).run P w = .ok (.bool r.isNone) w := by
  simp only [binOp]
  have : ∀ d : Nat, (Op.equalIn (d + 1) t (ptrV r) (.pointer none)).run P w = .ok r.isNone w := by
    intro d
    cases r <;> simp [ptrV, Op.equalIn, run_underlying h]
  simp [Op.equal, Op.maxDepth, this 9999]
theorem f_eqp (w : World) (r : Option Nat) : (binOp .eql 43 (ptrV r) (.pointer none)).run Try.prog w = .ok (.bool r.isNone) w := ptr_nil w Try.underlying43 r
theorem f_eqg (w : World) (t : TypeId) (x y : Operand) (r : Option Nat) : (eqGuard .eql t x y (ptrV r) (.pointer none)).run Try.prog w = .ok () w := by cases r <;> rfl
attribute [local go_sem] f_eqp f_eqg

set_option maxRecDepth 100000 in
set_option maxHeartbeats 16000000 in
theorem excl_ok (w : World) (a : Option Addr) (c : Nat) (zs : List Int) (hrd : Rd w 1 (.slice a zs.length c) zs.length (zs.map (Value.int .i64))) (bz : ∀ n ∈ zs, (Lit.int .i64 n).wf = true) (hm : zs.length ≤ 400) (tr : Int) (b0 : 0 ≤ tr) (b1 : tr ≤ 255) :
    Calls Try.prog 5 #[.slice a zs.length c, .int .u8 tr] w fun e w' => e = .returned (.bool true) ∧ Keep Nil w w' := by
  have HD := hid hrd
  have HZ := hid bz
  have d0 : decide (400 < (zs.length : Int)) = false := decide_eq_false (by omega)
  clear hrd bz
  go_enter Try.func5, Try.ntmps5
  go_wp2_with fail
  refine (new_ok _ [0] _ (rd_new _ _ _ 1 1 _ ⟨rfl, rfl⟩) (by simp) (by simp)).mono ?_
  rintro e w1 ⟨mb, F, rfl, hm1, k1, f1⟩
  have S1 := hid (Sys.fresh (Keep.alloc (Keep.refl _ _) _) hm1 k1 f1)
  clear hm1 k1 f1
  go_wp2
  obtain ⟨W, hW⟩ : ∃ W, W = (w1.alloc (.cells #[.pointer none, .pointer none, .pointer none, .pointer none, .pointer none, .pointer none, .pointer none, .pointer none] 50)).alloc (.cells #[.int .i64 0, .int .i64 0, .int .i64 0, .int .i64 0, .int .i64 0, .int .i64 0, .int .i64 0, .int .i64 0] 51) := ⟨_, rfl⟩
  rw [← hW]
  have hkW : Keep Nil w1 W := by rw [hW]; exact ((Keep.refl _ _).alloc _).alloc _
  have hB : Bx w W F [] w1.heap.size (w1.heap.size + 1) (List.replicate 8 none) (List.replicate 8 0) := by
    refine ⟨by rw [hW]; exact alloc_old (heap_alloc_new w1 _) _, ?_, by omega, fun h => ?_, fun h => ?_, fun p hp => by simp at hp, S1.out.own.1.size, by have := S1.out.own.1.size; omega⟩
    · rw [hW]; have := heap_alloc_new (w1.alloc (.cells #[.pointer none, .pointer none, .pointer none, .pointer none, .pointer none, .pointer none, .pointer none, .pointer none] 50)) (.cells #[.int .i64 0, .int .i64 0, .int .i64 0, .int .i64 0, .int .i64 0, .int .i64 0, .int .i64 0, .int .i64 0] 51); rw [World.size_alloc] at this; exact this
    · have := S1.out.mem.lt _ h; omega
    · have := S1.out.mem.lt _ h; omega
  obtain ⟨lim, hlim⟩ : ∃ lim : Int, lim = tr % 4 := ⟨_, rfl⟩
  have hl0 : 0 ≤ lim := by omega
  have hl1 : lim ≤ 3 := by omega
  have hI : ExI w W mb w1.heap.size (w1.heap.size + 1) lim 0 (-1) := ⟨F, [], _, _, [], S1.out.keep hkW, hB, ⟨rfl, rfl, fun t lb h => by
    have := List.getElem?_eq_some_iff.1 h; obtain ⟨h1, h2⟩ := this; rw [List.getElem_replicate] at h2; cases h2⟩, by simp, fun t f h => by
    obtain ⟨h1, h2⟩ := List.getElem?_eq_some_iff.1 h; rw [List.getElem_replicate] at h2; omega⟩
  have HI := hid hI
  have hkW' := S1.out.own.1.trans hkW (fun _ _ h => h)
  have HKW := hid hkW'
  rw [← hlim]
  generalize w1.heap.size = rb at *
  clear hW hkW hB hI hkW' hlim S1
  go_loopw [9, 11] (fun hs i wr => ∃ (k : Nat) (h : Int), k ≤ zs.length ∧ i = .int .i64 k ∧ hs = .int .i64 h ∧ -1 ≤ h ∧ h ≤ 7 ∧ Hid (ExI w wr mb rb (rb + 1) lim k h)) (fun _ i _ => zs.length - (intOf i).toNat)
  case atStart => exact ⟨0, -1, Nat.zero_le _, rfl, rfl, by omega, by omega, HI⟩
  case round =>
    obtain ⟨k, hs, hk, rfl, rfl, hs0, hs1, HE⟩ := hrel
    clear HI
    by_cases hlt : k < zs.length
    · obtain ⟨x, hx⟩ : ∃ x, zs[k]? = some x := ⟨_, List.getElem?_eq_getElem hlt⟩
      obtain ⟨x0, x1⟩ := i64_wf (HZ.out x (List.mem_of_getElem? hx))
      obtain ⟨G, ls, R, fs, log, hS, hBx, hRn, hll, hfs⟩ := HE.out
      obtain ⟨xb, xo, xc, hve, hc⟩ := Rd.cell HD.out (by omega)
      simp only [Value.slice.injEq] at hve
      obtain ⟨rfl, -, rfl⟩ := hve
      have hcx : wr.cell? ⟨xb, xo + k, none⟩ = some (.int .i64 x) := hS.own.1.cell (hc k _ (by simp [hx])) (fun h => h)
      obtain ⟨t, ht⟩ : ∃ t : Nat, x % 8 = t := ⟨(x % 8).toNat, by omega⟩
      have ht8 : t < 8 := by omega
      have hidx := index13_any x 8 x0 x1 (by omega) (by omega) wr
      rw [ht] at hidx
      have IDX := hid hidx
      have S := hid hS
      have B := hid hBx
      have Rn := hid hRn
      have FS := hid hfs
      have hlog : log.length < 1000000000000 := by omega
      clear hx hc hS hBx hRn hfs ht hidx HE
      go_wp2_with fail
      refine IDX.out.mono ?_
      rintro e w2 ⟨rfl, rfl⟩
      clear IDX
      by_cases hht : hs = t
      · subst hht
        go_wp2_with fail
        refine (unlock_ok S.out.mem t 0 (lck0 ht8 (by omega) (by omega) _) rfl hlog).mono ?_
        rintro e w2 ⟨rfl, hto⟩
        have HN := hid (ExI.unlock (hs' := -1) S.out B.out Rn.out hll FS.out (by simpa using hto))
        clear hto hcx
        go_wp2
        go_roundw
        case rel => exact ⟨k + 1, -1, by omega, by go_num, rfl, by omega, by omega, HN⟩
        case measure => simp [intOf]; omega
      · have e1 : (hs == (t : Int)) = false := beq_eq_false_iff_ne.2 hht
        go_wp2_with fail
        refine (unlock_state S.out.mem t 0 (lck0 ht8 (by omega) (by omega) _) (hs + 1) rfl (by omega)).mono ?_
        rintro e w2 ⟨rfl, rfl⟩
        obtain ⟨r, hr⟩ : ∃ r, R[t]? = some r := ⟨_, List.getElem?_eq_getElem (by have := Rn.out.1; omega)⟩
        have cR := B.out.cellR hr
        have HR := hid hr
        have t0 : (0 : Int) ≤ (t : Int) := by omega
        have t1 : (t : Int) < 8 := by omega
        clear hr
        go_upto_if 70 with fail
        go_cut [13] (fun _ wx => Hid (ExM w wx mb rb (rb + 1) lim k hs t))
        case first =>
          have cF : wr.frozen? ⟨rb, t, none⟩ = false := free_of B.out.r t
          cases r with
          | none =>
            simp only [ptrV] at cR
            go_wp2_with fail
            refine (lnew_ok S.out.mem t 0 lim (lck0 ht8 hl0 (by omega) _)).mono ?_
            rintro e w3 ⟨rfl, hl, hk3, hz⟩
            have q1 := hk3.at B.out.r (fun h => h)
            have q2 := hk3.at B.out.f (fun h => h)
            have z1 : w3.frozen? ⟨rb, t, none⟩ = false := free_of q1 t
            have z2 : w3.frozen? ⟨rb + 1, t, none⟩ = false := free_of q2 t
            have p1 : w3.cell? ⟨rb, t, none⟩ = some (.pointer none) := hk3.cell cR (fun h => h)
            obtain ⟨ff, hff⟩ : ∃ ff, fs[t]? = some ff := ⟨_, List.getElem?_eq_getElem (by have := Rn.out.2.1; omega)⟩
            have p2 : w3.cell? ⟨rb + 1, t, none⟩ = some (.int .i64 ff) := hk3.cell (B.out.cellF hff) (fun h => h)
            have HM := hid (ExM.begin ht8 S.out B.out Rn.out hll FS.out hl hk3)
            clear hl hk3 hz q1 q2 cR cF hff
            go_wp2
            go_meet
            exact HM
          | some lb =>
            simp only [ptrV] at cR
            obtain ⟨i, f, h1, h2⟩ := Rn.out.2.2 t lb HR.out
            have HM := hid (show ExM w wr mb rb (rb + 1) lim k hs t from ⟨G, ls, R, fs, log, i, lb, f, S.out, B.out, Rn.out, hll, FS.out, HR.out, h2, h1⟩)
            clear h1 h2
            go_wp2
            go_meet
            exact HM
        case rest =>
          have HM := hcut
          obtain ⟨G2, ls2, R2, fs2, log2, i, lb, f, hS, hBx, hRn, hll2, hfs2, hRt, hli, hft⟩ := HM.out
          clear S B Rn FS hlog hcx HM cR HR t0 t1
          have S := hid hS
          have B := hid hBx
          have Rn := hid hRn
          have FS := hid hfs2
          have RT := hid hRt
          have LI := hid hli
          have FT := hid hft
          have cR := hBx.cellR hRt
          have cF := hBx.cellF hft
          simp only [ptrV] at cR
          obtain ⟨f0, f1⟩ := hfs2 t f hft
          have t0 : (0 : Int) ≤ (t : Int) := by omega
          have t1 : (t : Int) < 8 := by omega
          have hw : IntKind.u64.wrap ((t : Int) + 1) = (t : Int) + 1 := by rw [IntKind.wrap_u64]; omega
          have hw2 : IntKind.u64.wrap (hs + 1) = hs + 1 := by rw [IntKind.wrap_u64]; omega
          clear hS hBx hRn hfs2 hRt hli hft
          by_cases hneg : hs < 0
          · obtain rfl : hs = -1 := by omega
            clear hneg e1
            go_wp2_with fail
            refine (lstep_yes S.out.mem _ (S.out.lk LI.out) rfl (S.out.nf LI.out) t0 (by simp only; omega) (by simp) rfl (by omega)).mono ?_
            rintro e w3 ht
            obtain ⟨rfl, G3, hs3, hb3⟩ := sb_step S.out B.out LI.out ht
            simp only at hs3 hb3
            have S3 := hid (show Sys w w3 mb G3 [(t : Int) + 1] _ _ from hs3)
            have B3 := hid hb3
            have cR3 := hb3.cellR RT.out
            have cF3 := hb3.cellF FT.out
            have zR3 : w3.frozen? ⟨rb, t, none⟩ = false := free_of hb3.r t
            simp only [ptrV] at cR3
            clear hs3 hb3 ht cR cF
            go_wp2_with fail
            refine (lres_any _ (S3.out.lk (i := i) (by rw [List.getElem?_set, if_pos rfl, if_pos (lt_of_at LI.out)]))).mono ?_
            rintro e w4 ⟨n4, rfl, rfl⟩
            have HN := hid (ExI.won S3.out B3.out Rn.out LI.out FT.out (by simp; omega) FS.out n4)
            obtain ⟨G4, ls4, R4, fs4, log4, hs4, -⟩ := HN.out
            have M4 := hid hs4.mem
            clear hs4
            go_wp2_with fail
            refine (peek_ok M4.out 0 ((t : Int) + 1) (by omega) rfl).mono ?_
            rintro e w5 ⟨rfl, rfl⟩
            go_wp2
            go_roundw
            case rel => exact ⟨k + 1, t, by omega, by go_num, rfl, by omega, by omega, HN⟩
            case measure => simp [intOf]; omega
          · have d1 : decide (hs < 0) = false := decide_eq_false hneg
            by_cases hfl : f + 1 = lim
            · have hst : LS.step ⟨f, lim, t, 0, true, 0⟩ (hs + 1) = ⟨f + 1, lim, t, 0, false, 11⟩ := by unfold LS.step; rw [if_neg (by omega), if_pos hfl]
              have d2 : (f + 1 == lim) = true := beq_iff_eq.2 hfl
              have HST := hid hst
              clear hst hfl e1
              go_wp2_with fail
              refine (lstep_no S.out.mem _ (S.out.lk LI.out) rfl (S.out.nf LI.out) t0 (by simp only; omega) (by simp) (hs + 1) rfl (by omega) f0 (by simp only; omega) (by omega)).mono ?_
              rintro e w3 ht
              obtain ⟨rfl, G3, hs3, hb3⟩ := sb_step S.out B.out LI.out ht
              rw [HST.out] at hs3 hb3
              have S3 := hid hs3
              have B3 := hid hb3
              have cR3 := hb3.cellR RT.out
              have cF3 := hb3.cellF FT.out
              have zR3 : w3.frozen? ⟨rb, t, none⟩ = false := free_of hb3.r t
              have zF3 : w3.frozen? ⟨rb + 1, t, none⟩ = false := free_of hb3.f t
              simp only [ptrV] at cR3
              clear hs3 hb3 ht cR cF
              go_wp2_with fail
              refine (lres_any _ (S3.out.lk (i := i) (by rw [List.getElem?_set, if_pos rfl, if_pos (lt_of_at LI.out)]))).mono ?_
              rintro e w4 ⟨n4, rfl, rfl⟩
              have HN := hid (ExI.over S3.out B3.out Rn.out LI.out FT.out (by simp; omega) FS.out n4)
              obtain ⟨G4, ls4, R4, fs4, log4, hs4, -⟩ := HN.out
              have M4 := hid hs4.mem
              clear hs4
              go_wp2_with fail
              refine (peek_ok M4.out 0 (hs + 1) (by omega) rfl).mono ?_
              rintro e w5 ⟨rfl, rfl⟩
              go_wp2
              go_roundw
              case rel => exact ⟨k + 1, hs, by omega, by go_num, rfl, by omega, by omega, HN⟩
              case measure => simp [intOf]; omega
            · have hst : LS.step ⟨f, lim, t, 0, true, 0⟩ (hs + 1) = ⟨f + 1, lim, t, 0, true, 0⟩ := by unfold LS.step; rw [if_neg (by omega), if_neg hfl]
              have d2 : (f + 1 == lim) = false := beq_eq_false_iff_ne.2 hfl
              have HST := hid hst
              clear hst hfl e1
              go_wp2_with fail
              refine (lstep_no S.out.mem _ (S.out.lk LI.out) rfl (S.out.nf LI.out) t0 (by simp only; omega) (by simp) (hs + 1) rfl (by omega) f0 (by simp only; omega) (by omega)).mono ?_
              rintro e w3 ht
              obtain ⟨rfl, G3, hs3, hb3⟩ := sb_step S.out B.out LI.out ht
              rw [HST.out] at hs3 hb3
              have S3 := hid hs3
              have B3 := hid hb3
              have cR3 := hb3.cellR RT.out
              have cF3 := hb3.cellF FT.out
              have zR3 : w3.frozen? ⟨rb, t, none⟩ = false := free_of hb3.r t
              have zF3 : w3.frozen? ⟨rb + 1, t, none⟩ = false := free_of hb3.f t
              simp only [ptrV] at cR3
              clear hs3 hb3 ht cR cF
              go_wp2_with fail
              refine (lres_any _ (S3.out.lk (i := i) (by rw [List.getElem?_set, if_pos rfl, if_pos (lt_of_at LI.out)]))).mono ?_
              rintro e w4 ⟨n4, rfl, rfl⟩
              have HN := hid (ExI.lost S3.out B3.out Rn.out RT.out LI.out FT.out (by simp; omega) FS.out n4)
              obtain ⟨G4, ls4, R4, fs4, log4, hs4, -⟩ := HN.out
              have M4 := hid hs4.mem
              clear hs4
              go_wp2_with fail
              refine (peek_ok M4.out 0 (hs + 1) (by omega) rfl).mono ?_
              rintro e w5 ⟨rfl, rfl⟩
              go_wp2
              go_roundw
              case rel => exact ⟨k + 1, hs, by omega, by go_num, rfl, by omega, by omega, HN⟩
              case measure => simp [intOf]; omega
    · obtain rfl : k = zs.length := by omega
      obtain ⟨G, ls, R, fs, log, hS, -⟩ := HE.out
      have O := hid hS.own.1
      clear hS HE
      go_wp2_with fail
      refine (new_ok _ [0] _ (rd_new _ _ _ 1 1 _ ⟨rfl, rfl⟩) (by simp) (by simp)).mono ?_
      rintro e w2 ⟨mb2, F2, rfl, hm2, k2, f2⟩
      have S2 := hid (Sys.fresh (Keep.alloc O.out _) hm2 k2 f2)
      clear hm2 k2 f2
      go_wp2_with fail
      refine (lnew_ok S2.out.mem 3 0 1 (by decide)).mono ?_
      rintro e w3 ⟨rfl, hl, hk, hz⟩
      have S3 := hid (S2.out.add hl hk)
      clear hl hk hz
      go_wp2_with fail
      refine (lstep_yes S3.out.mem _ (S3.out.lk (i := 0) rfl) rfl (S3.out.nf (i := 0) rfl) (by simp) (by simp) (by simp) rfl (by simp)).mono ?_
      rintro e w4 ht
      obtain ⟨rfl, F4, hs4⟩ := S3.out.step (i := 0) rfl ht
      have S4 := hid hs4
      clear hs4 ht
      go_wp2_with fail
      refine (peek_ok S4.out.mem 0 4 (by omega) rfl).mono ?_
      rintro e w5 ⟨rfl, rfl⟩
      go_wp2
      go_ret
      exact ⟨rfl, S4.out.own.1⟩
set_option maxRecDepth 100000 in
theorem excl_out (w : World) (a : Option Addr) (n c : Nat) (hn : 400 < n) (_hm : n ≤ maxLen) (tr : Int) :
    Calls Try.prog 5 #[.slice a n c, .int .u8 tr] w fun e w' => e = .returned (.bool true) ∧ w = w' := by
  have d0 : decide (400 < (n : Int)) = true := decide_eq_true (by omega)
  clear hn
  go_enter Try.func5, Try.ntmps5
  go_wp2
  go_ret
  exact ⟨rfl, rfl⟩
theorem walk_excl (w : World) (va : Value) (zs : List Int) (hrd : Rd w 1 va zs.length (zs.map (Value.int .i64))) (hb : ∀ n ∈ zs, (Lit.int .i64 n).wf = true) (hm : zs.length ≤ maxLen) (tr : Int) (ht : (Lit.int .u8 tr).wf = true) :
    Calls Try.prog 5 #[va, .int .u8 tr] w fun e w' => e = .returned (.bool true) ∧ Keep Nil w w' := by
  obtain ⟨b0, b1⟩ := u8_wf ht
  obtain ⟨a, c, rfl, -, -⟩ := id hrd
  by_cases hz : zs.length ≤ 400
  · exact excl_ok w a c zs hrd hb hz tr b0 b1
  · refine (excl_out w a zs.length c (by omega) hm tr).mono ?_
    rintro e w' ⟨h1, rfl⟩
    exact ⟨h1, Keep.refl _ _⟩
end Go.Proofs.Ytckopbjejjeknaa
