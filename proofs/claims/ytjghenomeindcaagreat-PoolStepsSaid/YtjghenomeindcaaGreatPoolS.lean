/- pool: swap. -/
import Derived.Test.YtjghenomeindcaaGreatPoolA
import Derived.Laws.Bits64b
set_option linter.unusedVariables false
set_option linter.unusedSimpArgs false
namespace Go.Proofs.YtjghenomeindcaaGreat
open Go.RowKit Go.Lf
section
variable {w w1 w2 w' : World} {A : Nat → Prop} {c : Cfg} {pb mb L ob gb tb m : Nat} {F G : Nat → Prop} {s s' : PSt} {ws' : List Int} {log' : List Acc} {o o' : PO}
theorem and40 (z : Int) (h0 : 0 ≤ z) (h1 : z < 1099511627776) : bits .and .u64 z 1099511627775 = z := by
  obtain ⟨n, rfl⟩ := Int.eq_ofNat_of_zero_le h0
  have := bits_and_u64_nat n 1099511627775 (by omega) (by omega)
  rw [show ((1099511627775 : Nat) : Int) = 1099511627775 from rfl] at this
  rw [this, show (1099511627775 : Nat) = 2 ^ 40 - 1 from rfl, Nat.and_two_pow_sub_one_eq_mod]
  omega
set_option maxRecDepth 100000 in
set_option maxHeartbeats 4000000 in
theorem cswap_yes (h : PA w A c pb mb L ob gb F G s) {th hd ow : Int} (hc : Com w tb pb th hd ow) (nA : ¬ A tb) (t0 : 0 ≤ th) (t1 : th < 64) (h0 : 0 ≤ hd) (w0 : 0 ≤ ow) (w1 : ow / 65536 < 1099511627775) (t : Int) (tw0 : 0 ≤ t) (tw1 : t ≤ 1024) (hx : s.ws[hd.toNat]? = some ow) (hl : s.log.length < 1000000000000) :
    Calls Tryz.prog 130 #[.pointer (some ⟨tb, 0, none⟩), .int .i64 t] w fun e w' => e = .returned (.bool true) ∧ ∃ A' F', PA w' A' c pb mb L ob gb F' G { s with ws := s.ws.set hd.toNat (t + 65536 * (ow / 65536 + 1)), log := s.log ++ [⟨th, hd, 4, ow, t + 65536 * (ow / 65536 + 1), true⟩] } ∧ Keep F w w' ∧ Foot w A A' := by
  obtain ⟨p0, -⟩ := h.cells
  have c0 := hc.c0
  have c1 := hc.c1
  have c3 := hc.c3
  have c4 := hc.c4
  have H := hid h
  have HC := hid hc
  have HX := hid hx
  have HL := hid hl
  have hFb : ¬ F tb := fun e => nA ((h.foot tb).2 (.inr (.inr (.inr (.inl e)))))
  have HF := hid hFb
  have ne : tb ≠ pb := fun e => nA ((h.foot tb).2 (.inl e))
  clear h hc hx hl nA hFb
  go_enter Tryz.func130, Tryz.ntmps130
  have KD := hid ((Keep.refl Nil w).drew)
  have hb := and40 (ow / 65536 + 1) (by omega) (by omega)
  go_wp2_with fail
  refine (ftag_ok ow w0 (by omega)).mono ?_
  rintro e w9 ⟨rfl, rfl⟩
  go_wp2_with fail
  refine (ftop_ok (ow / 65536 + 1) t (by omega) (by omega) tw0 tw1).mono ?_
  rintro e w9 ⟨rfl, rfl⟩
  clear hb
  go_wp2
  go_region_held3 (fun w' => w'.cell? ⟨tb, 0, none⟩ = some (.pointer (some ⟨pb, 0, none⟩)) ∧ w'.cell? ⟨tb, 1, none⟩ = some (.int .i64 th) ∧ w'.cell? ⟨tb, 3, none⟩ = some (.int .i64 hd) ∧ w'.cell? ⟨tb, 4, none⟩ = some (.int .u64 ow) ∧ w'.cell? ⟨pb, 0, none⟩ = some (.pointer (some ⟨mb, 0, none⟩))) (go_keep)
    (first
      | (go_at_call 59; (with_reducible refine (cas_yes (H.out.quiet KD.out).mem th hd ow (t + 65536 * (ow / 65536 + 1)) t0 t1 h0 HX.out HL.out).mono ?_); rintro e w10 ⟨rfl, hm⟩; obtain ⟨A1, F1, h1, k1, f1⟩ := H.out.turn KD.out hm; have H1 := hid h1; have K1 := hid k1; have FT1 := hid f1; have cc := HC.out.keep k1 HF.out; have i0 := cc.c0; have i1 := cc.c1; have i3 := cc.c3; have i4 := cc.c4; obtain ⟨j0, -⟩ := h1.cells; clear hm h1 k1 f1 cc))
  all_goals
    go_wp2
    go_ret
    exact ⟨rfl, A1, F1, H1.out, K1.out, FT1.out⟩
set_option maxRecDepth 100000 in
set_option maxHeartbeats 4000000 in
theorem cswap_no (h : PA w A c pb mb L ob gb F G s) {th hd ow : Int} (hc : Com w tb pb th hd ow) (nA : ¬ A tb) (t0 : 0 ≤ th) (t1 : th < 64) (h0 : 0 ≤ hd) (w0 : 0 ≤ ow) (w1 : ow / 65536 < 1099511627775) (t : Int) (tw0 : 0 ≤ t) (tw1 : t ≤ 1024) (x : Int) (hx : s.ws[hd.toNat]? = some x) (hne : x ≠ ow) (hl : s.log.length < 1000000000000) :
    Calls Tryz.prog 130 #[.pointer (some ⟨tb, 0, none⟩), .int .i64 t] w fun e w' => e = .returned (.bool false) ∧ ∃ A' F', PA w' A' c pb mb L ob gb F' G { s with log := s.log ++ [⟨th, hd, 4, x, x, false⟩] } ∧ Keep F w w' ∧ Foot w A A' := by
  obtain ⟨p0, -⟩ := h.cells
  have c0 := hc.c0
  have c1 := hc.c1
  have c3 := hc.c3
  have c4 := hc.c4
  have H := hid h
  have HC := hid hc
  have HX := hid hx
  have HL := hid hl
  have HNE := hid hne
  have hFb : ¬ F tb := fun e => nA ((h.foot tb).2 (.inr (.inr (.inr (.inl e)))))
  have HF := hid hFb
  have ne : tb ≠ pb := fun e => nA ((h.foot tb).2 (.inl e))
  clear h hc hx hl nA hFb hne
  go_enter Tryz.func130, Tryz.ntmps130
  have KD := hid ((Keep.refl Nil w).drew)
  have hb := and40 (ow / 65536 + 1) (by omega) (by omega)
  go_wp2_with fail
  refine (ftag_ok ow w0 (by omega)).mono ?_
  rintro e w9 ⟨rfl, rfl⟩
  go_wp2_with fail
  refine (ftop_ok (ow / 65536 + 1) t (by omega) (by omega) tw0 tw1).mono ?_
  rintro e w9 ⟨rfl, rfl⟩
  clear hb
  go_wp2
  go_region_held3 (fun w' => w'.cell? ⟨tb, 0, none⟩ = some (.pointer (some ⟨pb, 0, none⟩)) ∧ w'.cell? ⟨tb, 1, none⟩ = some (.int .i64 th) ∧ w'.cell? ⟨tb, 3, none⟩ = some (.int .i64 hd) ∧ w'.cell? ⟨tb, 4, none⟩ = some (.int .u64 ow) ∧ w'.cell? ⟨pb, 0, none⟩ = some (.pointer (some ⟨mb, 0, none⟩))) (go_keep)
    (first
      | (go_at_call 59; (with_reducible refine (cas_no (H.out.quiet KD.out).mem th hd x ow (t + 65536 * (ow / 65536 + 1)) t0 t1 h0 HX.out HNE.out HL.out).mono ?_); rintro e w10 ⟨rfl, hm⟩; obtain ⟨A1, F1, h1, k1, f1⟩ := H.out.turn KD.out hm; have H1 := hid h1; have K1 := hid k1; have FT1 := hid f1; have cc := HC.out.keep k1 HF.out; have i0 := cc.c0; have i1 := cc.c1; have i3 := cc.c3; have i4 := cc.c4; obtain ⟨j0, -⟩ := h1.cells; clear hm h1 k1 f1 cc))
  all_goals
    go_wp2
    go_ret
    exact ⟨rfl, A1, F1, H1.out, K1.out, FT1.out⟩
end
end Go.Proofs.YtjghenomeindcaaGreat
