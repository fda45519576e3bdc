/- What the words of a tower say at a moment: the contract of law25.shown. -/
import Derived.Test.YtmafdjhjmnghcaaGreatReadLaw
import Derived.Test.YtmafdjhjmnghcaaGreatStoreSw
set_option linter.unusedVariables false
set_option linter.unusedSimpArgs false
namespace Go.Proofs.YtmafdjhjmnghcaaGreat
open Go.RowKit Go.Lf
attribute [local go_sem] fld0 fld1 fld2 fld3 fld4 fld5 fld6 fld7 fld8 fld9 fldc fldl
section
variable {w wr w' : World} {c : Cfg} {b mb : Nat} {ws : List Int} {log : List Acc} {i : Nat}
theorem sw_peek (h : SW w wr c b mb ws log) (a x : Int) (a0 : 0 ≤ a) (hx : ws[a.toNat]? = some x) : Calls Tryz.prog 26 #[.pointer (some ⟨mb, 0, none⟩), .int .i64 a] wr fun e w' => e = .returned (.tuple #[.int .u64 x, .bool true]) ∧ wr = w' := by
  obtain ⟨⟨A, ⟨L, F, G, hsp⟩, hA⟩, hown⟩ := h
  exact peek_ok hsp.mem a x a0 hx
theorem sw_config (h : SW w wr c b mb ws log) (hok : c.ok) : Calls Tryz.prog 44 #[.pointer (some ⟨b, 0, none⟩)] wr (CfgTo wr c) := by
  obtain ⟨⟨A, ⟨L, F, G, hsp⟩, hA⟩, hown⟩ := h
  exact bconfig_ok hsp hok
set_option maxRecDepth 100000 in
set_option maxHeartbeats 4000000 in
theorem shown_ok (h : SW w wr c b mb ws log) (hok : c.ok) (hi : i < c.nT) (hlen : c.words ≤ ws.length) (hwf : ∀ x ∈ ws, 0 ≤ x ∧ x < 18446744073709551616) (t : Int) (ht : t = i + 1) (v : Int) (p : Bool) (hv : shownP c.lk (c.tow i) c.descs ws = (v, p)) :
    Calls Tryz.prog 46 #[.pointer (some ⟨b, 0, none⟩), .int .i64 t] wr fun e w' => e = .returned (.tuple #[.int .u64 v, .bool p]) ∧ Keep Nil wr w' := by
  subst ht
  obtain ⟨hT1, hT2⟩ := c.tow_rng hi
  obtain ⟨-, -, -, -, hp1, hp2, hp3, hp4, hp5⟩ := plc_lt c
  have htw := hok.towers
  obtain ⟨s, hs⟩ : ∃ s, ws[c.tow i + 4]? = some s := ⟨_, List.getElem?_eq_getElem (by omega)⟩
  obtain ⟨s0, s1⟩ := hwf s (List.mem_of_getElem? hs)
  obtain ⟨he0, he1⟩ := fEntry_rng (w := s)
  have hlk := hok.lk2
  have hlk1 := hok.lk1
  unfold shownP at hv
  simp only [hs, Option.getD_some] at hv
  have HS := hid h
  have HOK := hid hok
  have HI := hid hi
  have HX := hid hs
  have HK0 := hid (Keep.refl Nil wr)
  by_cases hk1 : fOk s = true
  · by_cases hk2 : fEntry s < (c.lk : Int)
    · rw [if_pos ⟨hk1, hk2⟩] at hv
      have de : decide ((c.lk : Int) ≤ fEntry s) = false := decide_eq_false (by omega)
      have wde : IntKind.i64.wrap ((c.descs : Int) + fEntry s) = (c.descs : Int) + fEntry s := by rw [IntKind.wrap_i64]; omega
      obtain ⟨x, hx⟩ : ∃ x, ws[c.descs + (fEntry s).toNat]? = some x := ⟨_, List.getElem?_eq_getElem (by omega)⟩
      obtain ⟨x0, x1⟩ := hwf x (List.mem_of_getElem? hx)
      obtain ⟨v1, hv1⟩ : ∃ v1, ws[c.tow i + 1]? = some v1 := ⟨_, List.getElem?_eq_getElem (by omega)⟩
      obtain ⟨v2, hv2⟩ : ∃ v2, ws[c.tow i + 2]? = some v2 := ⟨_, List.getElem?_eq_getElem (by omega)⟩
      simp only [hx, Option.getD_some] at hv
      have HD := hid hx
      have HV1 := hid hv1
      have HV2 := hid hv2
      obtain ⟨K, hK⟩ : ∃ K, K = fKind s := ⟨_, rfl⟩
      have hkk := fOk_kind hk1
      rw [← hK] at hv hkk
      have HK := hid hK
      have HV := hid hv
      have hz : ∀ k : Int, K = k → (k = 0 ∨ k = 1 ∨ k = 2) → fDecide s 0 = (decide (k = 1), false, 0) := by
        intro k h0 h1
        unfold fDecide
        rw [if_neg (by rw [hk1]; simp), ← hK, h0]
        rcases h1 with rfl | rfl | rfl <;> simp
      have HZ := hid hz
      have HW := hid (And.intro hT1 (And.intro hT2 (And.intro hlen hwf)))
      have da : (c.descs : Int) + fEntry s = ((c.descs + (fEntry s).toNat : Nat) : Int) := by omega
      have HDA := hid da
      clear h hok hi hs hx hv1 hv2 hv hK hz hT1 hT2 hp1 hp2 hp3 hp4 hp5 htw hlk hlk1 hlen hwf hk2 da
      go_enter Tryz.func46, Tryz.ntmps46
      go_wp2_with fail
      refine (sw_mem HS.out).mono ?_
      rintro e w1 ⟨rfl, rfl⟩
      go_wp2_with fail
      refine (word_ok HS.out HOK.out HI.out _ 4 _ rfl (by decide) (by decide) rfl).mono ?_
      rintro e w1 ⟨rfl, rfl⟩
      go_wp2_with fail
      refine (sw_peek HS.out _ s (by omega) (by rw [show ((c.tow i : Int) + 4).toNat = c.tow i + 4 by omega]; exact HX.out)).mono ?_
      rintro e w1 ⟨rfl, rfl⟩
      go_wp2_with fail
      refine (fcheck_yes s s0 s1 hk1).mono ?_
      rintro e w1 ⟨rfl, rfl⟩
      go_wp2_with fail
      refine (fentry_ok s s0 s1).mono ?_
      rintro e w1 ⟨rfl, rfl⟩
      go_wp2_with fail
      refine (sw_config HS.out HOK.out).mono ?_
      rintro e w2 ⟨t1, t2, t3, t4, t5, t6, a, cp, rfl, hk2⟩
      have HS2 := hid (HS.out.quiet hk2)
      have HK2 := hid hk2
      clear hk2
      go_wp2_with fail
      refine (sw_mem HS2.out).mono ?_
      rintro e w1 ⟨rfl, rfl⟩
      go_wp2_with fail
      refine (sw_layout HS2.out).mono ?_
      rintro e w1 ⟨L, rfl, hl, rfl⟩
      have HLAY := hid hl
      clear hl
      go_wp2_with fail
      refine (places_ok HLAY.out).mono ?_
      rintro e w3 ⟨rfl, hk3⟩
      have HS3 := hid (HS2.out.quiet hk3)
      have HK3 := hid (HK2.out.trans hk3 (fun _ _ h => h))
      clear hk3 HS2 HK2 HLAY
      go_wp2_with fail
      refine (fentry_ok s s0 s1).mono ?_
      rintro e w1 ⟨rfl, rfl⟩
      go_wp2_with fail
      refine (sw_peek HS3.out _ x (by omega) (by rw [show ((c.descs : Int) + fEntry s).toNat = c.descs + (fEntry s).toNat by omega]; exact HD.out)).mono ?_
      rintro e w1 ⟨rfl, rfl⟩
      go_wp2_with fail
      refine (fkind_ok s s0 s1).mono ?_
      rintro e w1 ⟨rfl, rfl⟩
      rw [← HK.out]
      rcases hkk with rfl | rfl | rfl | hkk
      · have hv := HV.out
        simp only [HZ.out 0 rfl (.inl rfl), true_or, if_true] at hv
        simp at hv
        obtain ⟨rfl, rfl⟩ := hv
        go_wp2_with fail
        refine (fdecide_ok s 0 s0 s1 (by decide) (by decide) _ _ _ (HZ.out 0 rfl (.inl rfl))).mono ?_
        rintro e w1 ⟨rfl, rfl⟩
        go_wp2
        go_ret2
        exact ⟨rfl, HK3.out⟩
      · have hv := HV.out
        simp only [HZ.out 1 rfl (.inr (.inl rfl)), true_or, or_true, if_true, HV1.out] at hv
        simp [HV1.out] at hv
        obtain ⟨rfl, rfl⟩ := hv
        go_wp2_with fail
        refine (fdecide_ok s 0 s0 s1 (by decide) (by decide) _ _ _ (HZ.out 1 rfl (.inr (.inl rfl)))).mono ?_
        rintro e w1 ⟨rfl, rfl⟩
        go_wp2_with fail
        refine (sw_mem HS3.out).mono ?_
        rintro e w1 ⟨rfl, rfl⟩
        go_wp2_with fail
        refine (word_ok HS3.out HOK.out HI.out _ 1 _ rfl (by decide) (by decide) rfl).mono ?_
        rintro e w1 ⟨rfl, rfl⟩
        go_wp2_with fail
        refine (sw_peek HS3.out _ v1 (by omega) (by rw [show ((c.tow i : Int) + 1).toNat = c.tow i + 1 by omega]; exact HV1.out)).mono ?_
        rintro e w1 ⟨rfl, rfl⟩
        go_wp2
        go_ret2
        exact ⟨rfl, HK3.out⟩
      · have hv := HV.out
        simp only [HZ.out 2 rfl (.inr (.inr rfl)), true_or, or_true, if_true] at hv
        simp at hv
        obtain ⟨rfl, rfl⟩ := hv
        go_wp2_with fail
        refine (fdecide_ok s 0 s0 s1 (by decide) (by decide) _ _ _ (HZ.out 2 rfl (.inr (.inr rfl)))).mono ?_
        rintro e w1 ⟨rfl, rfl⟩
        go_wp2
        go_ret2
        exact ⟨rfl, HK3.out⟩
      · have hv := HV.out
        rw [if_neg (show ¬ (K = 0 ∨ K = 1 ∨ K = 2) by omega)] at hv
        have dk0 : (K == 0) = false := beq_eq_false_iff_ne.2 (by omega)
        have dk1 : (K == 1) = false := beq_eq_false_iff_ne.2 (by omega)
        have dk2 : (K == 2) = false := beq_eq_false_iff_ne.2 (by omega)
        have ek0 : decide (K = 0) = false := decide_eq_false (by omega)
        have ek1 : decide (K = 1) = false := decide_eq_false (by omega)
        have ek2 : decide (K = 2) = false := decide_eq_false (by omega)
        obtain ⟨q, a', er, hq⟩ : ∃ q a' er, fDecide s x = (q, a', er) := ⟨_, _, _, rfl⟩
        rw [hq] at hv
        simp only at hv
        clear hkk
        go_wp2_with fail
        refine (fdecide_ok s x s0 s1 x0 x1 _ _ _ hq).mono ?_
        rintro e w1 ⟨rfl, rfl⟩
        clear hq
        by_cases her : er = 0
        · subst her
          cases q with
          | false =>
            simp at hv
            obtain ⟨rfl, rfl⟩ := hv
            go_wp2
            go_ret2
            exact ⟨rfl, HK3.out⟩
          | true =>
            cases a' with
            | true =>
              simp [HV2.out] at hv
              obtain ⟨rfl, rfl⟩ := hv
              go_wp2_with fail
              refine (sw_mem HS3.out).mono ?_
              rintro e w1 ⟨rfl, rfl⟩
              go_wp2_with fail
              refine (word_ok HS3.out HOK.out HI.out _ 2 _ rfl (by decide) (by decide) rfl).mono ?_
              rintro e w1 ⟨rfl, rfl⟩
              go_wp2_with fail
              refine (sw_peek HS3.out _ v2 (by omega) (by rw [show ((c.tow i : Int) + 2).toNat = c.tow i + 2 by omega]; exact HV2.out)).mono ?_
              rintro e w1 ⟨rfl, rfl⟩
              go_wp2
              go_ret2
              exact ⟨rfl, HK3.out⟩
            | false =>
              simp [HV1.out] at hv
              obtain ⟨rfl, rfl⟩ := hv
              go_wp2_with fail
              refine (sw_mem HS3.out).mono ?_
              rintro e w1 ⟨rfl, rfl⟩
              go_wp2_with fail
              refine (word_ok HS3.out HOK.out HI.out _ 1 _ rfl (by decide) (by decide) rfl).mono ?_
              rintro e w1 ⟨rfl, rfl⟩
              go_wp2_with fail
              refine (sw_peek HS3.out _ v1 (by omega) (by rw [show ((c.tow i : Int) + 1).toNat = c.tow i + 1 by omega]; exact HV1.out)).mono ?_
              rintro e w1 ⟨rfl, rfl⟩
              go_wp2
              go_ret2
              exact ⟨rfl, HK3.out⟩
        · have der : (er != 0) = true := by simpa using her
          have der2 : (er == 0) = false := by simpa using her
          rw [if_pos (.inl her)] at hv
          simp only [Prod.mk.injEq] at hv
          obtain ⟨rfl, rfl⟩ := hv
          clear her
          go_wp2
          go_ret2
          exact ⟨rfl, HK3.out⟩
    · rw [if_neg (fun e => hk2 e.2)] at hv
      simp only [Prod.mk.injEq] at hv
      obtain ⟨rfl, rfl⟩ := hv
      have de : decide ((c.lk : Int) ≤ fEntry s) = true := decide_eq_true (by omega)
      clear h hok hi hs hT1 hT2 hp1 hp2 hp3 hp4 hp5 htw hlk hlk1 hlen hwf hk2
      go_enter Tryz.func46, Tryz.ntmps46
      go_wp2_with fail
      refine (sw_mem HS.out).mono ?_
      rintro e w1 ⟨rfl, rfl⟩
      go_wp2_with fail
      refine (word_ok HS.out HOK.out HI.out _ 4 _ rfl (by decide) (by decide) rfl).mono ?_
      rintro e w1 ⟨rfl, rfl⟩
      go_wp2_with fail
      refine (sw_peek HS.out _ s (by omega) (by rw [show ((c.tow i : Int) + 4).toNat = c.tow i + 4 by omega]; exact HX.out)).mono ?_
      rintro e w1 ⟨rfl, rfl⟩
      go_wp2_with fail
      refine (fcheck_yes s s0 s1 hk1).mono ?_
      rintro e w1 ⟨rfl, rfl⟩
      go_wp2_with fail
      refine (fentry_ok s s0 s1).mono ?_
      rintro e w1 ⟨rfl, rfl⟩
      go_wp2_with fail
      refine (sw_config HS.out HOK.out).mono ?_
      rintro e w2 ⟨t1, t2, t3, t4, t5, t6, a, cp, rfl, hk2⟩
      have HK2 := hid hk2
      clear hk2
      go_wp2
      go_ret2
      exact ⟨rfl, HK2.out⟩
  · rw [if_neg (fun e => hk1 e.1)] at hv
    simp only [Prod.mk.injEq] at hv
    obtain ⟨rfl, rfl⟩ := hv
    have hno : fOk s = false := by simpa using hk1
    clear h hok hi hs hT1 hT2 hp1 hp2 hp3 hp4 hp5 htw hlk hlk1 hlen hwf hk1
    go_enter Tryz.func46, Tryz.ntmps46
    go_wp2_with fail
    refine (sw_mem HS.out).mono ?_
    rintro e w1 ⟨rfl, rfl⟩
    go_wp2_with fail
    refine (word_ok HS.out HOK.out HI.out _ 4 _ rfl (by decide) (by decide) rfl).mono ?_
    rintro e w1 ⟨rfl, rfl⟩
    go_wp2_with fail
    refine (sw_peek HS.out _ s (by omega) (by rw [show ((c.tow i : Int) + 4).toNat = c.tow i + 4 by omega]; exact HX.out)).mono ?_
    rintro e w1 ⟨rfl, rfl⟩
    go_wp2_with fail
    refine (fcheck_no s s0 s1 hno).mono ?_
    rintro e w1 ⟨rfl, rfl⟩
    go_wp2
    go_ret2
    exact ⟨rfl, HK0.out⟩
end
end Go.Proofs.YtmafdjhjmnghcaaGreat
