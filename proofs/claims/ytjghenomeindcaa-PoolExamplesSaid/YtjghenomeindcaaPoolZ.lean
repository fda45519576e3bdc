/- law14: Run.act begins an operation. -/
import Derived.Test.YtjghenomeindcaaPoolY
set_option linter.unusedVariables false
set_option linter.unusedSimpArgs false
namespace Go.Proofs.Ytjghenomeindcaa
open Go.RowKit Go.Lf
section
variable {w0 : Frm} {w w' : World} {c : Cfg} {R : PRun} {rb pb L t : Nat} {own own' : Nat → Option Nat} {f : Nat → Nat → Value} {o : PO} {x : Int}
set_option maxRecDepth 100000 in
set_option maxHeartbeats 4000000 in
theorem ract_take0 (h : RunAt w0 w c R rb pb L own f) (hi : PInv c R) (hb : SB R) (hok : c.ok) (hl : R.s.log.length < 1000000) (ht : t < 6) (ho : R.ops t = none) (k : Nat) (k1 : 1 ≤ k) (k6 : k ≤ 6) :
    Calls Try.prog 29 #[.pointer (some ⟨rb, 0, none⟩), .int .i64 (t : Int), .bool false, .int .i64 (k : Int)] w fun e w' => e = .returned (.bool true) ∧ RunTo w0 c ((R.begT t k).step1 c t) rb pb L w' := by
  have t0 : (0 : Int) ≤ (t : Int) := by omega
  have t6 : (t : Int) < 6 := by omega
  have hop := h.op t ht
  rw [ho] at hop
  obtain ⟨e0, e1⟩ := OpAt.none_ hop
  have hi2 := hi.begT ht ho k1 k6
  have hb2 : SB (R.begT t k) := hb
  obtain ⟨x, hx⟩ := hi2.word (t := t) (o := PO.take t k 0) ht pup_me
  have hgo : (R.begT t k).step1 c t = (R.begT t k).go c t (PO.take t k 0) x := by
    have hbo : (R.begT t k).ops t = some (PO.take t k 0) := pup_me
    unfold PRun.step1
    rw [hbo]
    simp only [hx, Option.getD_some]
  rw [hgo]
  have q2 : w.cell? ⟨rb, 2 + t, none⟩ = some (.pointer none) := e0 ▸ h.cell (j := 0) (by decide) ht
  have q8 : w.cell? ⟨rb, 8 + t, none⟩ = some (.pointer none) := e1 ▸ h.cell (j := 1) (by decide) ht
  have q14 : w.cell? ⟨rb, 14 + t, none⟩ = some (.int .i64 (R.of t)) := (h.of t ht) ▸ h.cell (j := 2) (by decide) ht
  have z14 : w.frozen? ⟨rb, 14 + t, none⟩ = false := h.free _
  have H0 := hid (h.setOf ht (k : Int))
  obtain ⟨W, hW⟩ : ∃ W, W = w.setCell ⟨rb, 14 + t, none⟩ (.int .i64 (k : Int)) := ⟨_, rfl⟩
  have H1 := hid (show RunAt w0 W c _ rb pb L _ _ from hW ▸ H0.out)
  have HW := hid hW
  have HI := hid hi2
  have HB := hid hb2
  have HX := hid hx
  have HE := hid (And.intro e0 e1)
  clear h hi hb ho hop hi2 hb2 hx e0 e1 hgo hW H0
  go_enter Try.func29, Try.ntmps29
  go_upto_region 7 with fail
  rw [← HW.out]
  clear q2 q8 q14 z14
  have q1 := H1.out.cell0.2
  have q2 : W.cell? ⟨rb, 2 + t, none⟩ = some (.pointer none) := HE.out.1 ▸ H1.out.cell (j := 0) (by decide) ht
  obtain ⟨A, ⟨mb, ob, gb, F, G, hpa⟩, hA⟩ := H1.out.pl
  have HPA := hid hpa
  have KD := hid ((Keep.refl Nil W).drew)
  clear hpa hA
  go_region_held3 (fun w' => w'.cell? ⟨rb, 1, none⟩ = some (.pointer (some ⟨pb, 0, none⟩))) (first | exact cs_ne i1 (.inr (by omega)) | go_keep)
    (first
      | (go_at_call 19; (with_reducible refine (ptake_ok (w := W.drew) (HPA.out.quiet KD.out) hok (t : Int) (k : Int) 0 t0 (by omega) (by omega) (by omega) (by decide) (by decide)).mono ?_); rintro e w10 ⟨tb, m, rfl, htk, hk, n1, n2⟩; rw [Int.toNat_natCast] at htk; obtain ⟨own2, h2, o1, o2, -⟩ := (H1.out.quiet KD.out).more hk n1 n2 htk.lt.1 htk.lt.2 htk.ne (2 + t) (8 + t); have H2 := hid h2; have HTK := hid htk; have HO := hid (And.intro o1 o2); have i1 := h2.cell0.2; have i2 : w10.cell? ⟨rb, 2 + t, none⟩ = some (.pointer none) := HE.out.1 ▸ h2.cell (j := 0) (by decide) ht; have iz2 : w10.frozen? ⟨rb, 2 + t, none⟩ = false := h2.free _; clear htk hk n1 n2 h2 o1 o2))
  all_goals
    have H3 := hid (H2.out.beg0 ht HE.out.2 HTK.out HO.out.1 HO.out.2)
    obtain ⟨W3, hW3⟩ : ∃ W3, W3 = w10.setCell ⟨rb, 2 + t, none⟩ (.pointer (some ⟨tb, 0, none⟩)) := ⟨_, rfl⟩
    have H3' := hid (show RunAt w0 W3 c (R.begT t k) rb pb L _ _ from hW3 ▸ H3.out)
    rw [← hW3]
    have j2 : W3.cell? ⟨rb, 2 + t, none⟩ = some (.pointer (some ⟨tb, 0, none⟩)) := by
      have := H3'.out.cell (j := 0) (i := t) (by decide) ht
      rw [fset_me] at this
      exact this
    clear hW3 H3 i1 i2 iz2 q1 q2 H2 HTK
    go_wp2_with fail
    refine (rtake_any H3'.out HI.out HB.out hok hl ht pup_me rfl HX.out).mono ?_
    rintro e w9 ⟨rfl, hr⟩
    have HR := hid hr
    clear hr
    go_wp2
    go_ret
    exact ⟨rfl, HR.out⟩
set_option maxRecDepth 100000 in
set_option maxHeartbeats 4000000 in
theorem ract_take1 (h : RunAt w0 w c R rb pb L own f) (hi : PInv c R) (hb : SB R) (hok : c.ok) (hl : R.s.log.length < 1000000) (ht : t < 6) (ho : R.ops t = none) (hm : R.mine t = []) (k : Nat) (k1 : 1 ≤ k) (k6 : k ≤ 6) :
    Calls Try.prog 29 #[.pointer (some ⟨rb, 0, none⟩), .int .i64 (t : Int), .bool true, .int .i64 (k : Int)] w fun e w' => e = .returned (.bool true) ∧ RunTo w0 c ((R.begT t k).step1 c t) rb pb L w' := by
  have t0 : (0 : Int) ≤ (t : Int) := by omega
  have t6 : (t : Int) < 6 := by omega
  have hop := h.op t ht
  rw [ho] at hop
  obtain ⟨e0, e1⟩ := OpAt.none_ hop
  have hi2 := hi.begT ht ho k1 k6
  have hb2 : SB (R.begT t k) := hb
  obtain ⟨x, hx⟩ := hi2.word (t := t) (o := PO.take t k 0) ht pup_me
  have hgo : (R.begT t k).step1 c t = (R.begT t k).go c t (PO.take t k 0) x := by
    have hbo : (R.begT t k).ops t = some (PO.take t k 0) := pup_me
    unfold PRun.step1
    rw [hbo]
    simp only [hx, Option.getD_some]
  rw [hgo]
  have q2 : w.cell? ⟨rb, 2 + t, none⟩ = some (.pointer none) := e0 ▸ h.cell (j := 0) (by decide) ht
  have q8 : w.cell? ⟨rb, 8 + t, none⟩ = some (.pointer none) := e1 ▸ h.cell (j := 1) (by decide) ht
  have q14 : w.cell? ⟨rb, 14 + t, none⟩ = some (.int .i64 (R.of t)) := (h.of t ht) ▸ h.cell (j := 2) (by decide) ht
  have z14 : w.frozen? ⟨rb, 14 + t, none⟩ = false := h.free _
  obtain ⟨ma, mc, hmv⟩ := (h.mine t ht).1.shape
  rw [hm] at hmv
  have q20 : w.cell? ⟨rb, 20 + t, none⟩ = some (.slice ma 0 mc) := by
    have := h.cell (j := 3) (i := t) (by decide) ht
    rw [hmv] at this
    exact this
  have H0 := hid (h.setOf ht (k : Int))
  obtain ⟨W, hW⟩ : ∃ W, W = w.setCell ⟨rb, 14 + t, none⟩ (.int .i64 (k : Int)) := ⟨_, rfl⟩
  have H1 := hid (show RunAt w0 W c _ rb pb L _ _ from hW ▸ H0.out)
  have HW := hid hW
  have HI := hid hi2
  have HB := hid hb2
  have HX := hid hx
  have HE := hid (And.intro e0 e1)
  clear h hi hb ho hop hi2 hb2 hx e0 e1 hgo hW H0 hm hmv
  go_enter Try.func29, Try.ntmps29
  go_upto_region 7 with fail
  rw [← HW.out]
  clear q2 q8 q14 z14
  have q1 := H1.out.cell0.2
  have q2 : W.cell? ⟨rb, 2 + t, none⟩ = some (.pointer none) := HE.out.1 ▸ H1.out.cell (j := 0) (by decide) ht
  obtain ⟨A, ⟨mb, ob, gb, F, G, hpa⟩, hA⟩ := H1.out.pl
  have HPA := hid hpa
  have KD := hid ((Keep.refl Nil W).drew)
  clear hpa hA
  go_region_held3 (fun w' => w'.cell? ⟨rb, 1, none⟩ = some (.pointer (some ⟨pb, 0, none⟩))) (first | exact cs_ne i1 (.inr (by omega)) | go_keep)
    (first
      | (go_at_call 19; (with_reducible refine (ptake_ok (w := W.drew) (HPA.out.quiet KD.out) hok (t : Int) (k : Int) 0 t0 (by omega) (by omega) (by omega) (by decide) (by decide)).mono ?_); rintro e w10 ⟨tb, m, rfl, htk, hk, n1, n2⟩; rw [Int.toNat_natCast] at htk; obtain ⟨own2, h2, o1, o2, -⟩ := (H1.out.quiet KD.out).more hk n1 n2 htk.lt.1 htk.lt.2 htk.ne (2 + t) (8 + t); have H2 := hid h2; have HTK := hid htk; have HO := hid (And.intro o1 o2); have i1 := h2.cell0.2; have i2 : w10.cell? ⟨rb, 2 + t, none⟩ = some (.pointer none) := HE.out.1 ▸ h2.cell (j := 0) (by decide) ht; have iz2 : w10.frozen? ⟨rb, 2 + t, none⟩ = false := h2.free _; clear htk hk n1 n2 h2 o1 o2))
  all_goals
    have H3 := hid (H2.out.beg0 ht HE.out.2 HTK.out HO.out.1 HO.out.2)
    obtain ⟨W3, hW3⟩ : ∃ W3, W3 = w10.setCell ⟨rb, 2 + t, none⟩ (.pointer (some ⟨tb, 0, none⟩)) := ⟨_, rfl⟩
    have H3' := hid (show RunAt w0 W3 c (R.begT t k) rb pb L _ _ from hW3 ▸ H3.out)
    rw [← hW3]
    have j2 : W3.cell? ⟨rb, 2 + t, none⟩ = some (.pointer (some ⟨tb, 0, none⟩)) := by
      have := H3'.out.cell (j := 0) (i := t) (by decide) ht
      rw [fset_me] at this
      exact this
    clear hW3 H3 i1 i2 iz2 q1 q2 H2 HTK
    go_wp2_with fail
    refine (rtake_any H3'.out HI.out HB.out hok hl ht pup_me rfl HX.out).mono ?_
    rintro e w9 ⟨rfl, hr⟩
    have HR := hid hr
    clear hr
    go_wp2
    go_ret
    exact ⟨rfl, HR.out⟩
/-- New blocks for thread t beside the pools. -/
theorem RunAt.moreG (h : RunAt w0 w c R rb pb L own f) {A : Nat → Prop} {s' : PSt} (hA : ∀ k, A k → own k = some 0) (hl : (PoolL c pb L).lie w' A s') {tb m : Nat} (hk : Keep A w w') (n1 : w.heap.size ≤ tb) (n2 : w.heap.size ≤ m) (l1 : tb < w'.heap.size) (l2 : m < w'.heap.size) (hne : m ≠ tb) (a b : Nat) :
    ∃ own', RunAt w0 w' c { R with s := s' } rb pb L own' f ∧ own' tb = some a ∧ own' m = some b := by
  have hno : ∀ k, w.heap.size ≤ k → own k = none := fun k hk => by
    cases ho : own k with
    | none => rfl
    | some t => have := (h.olt k (by rw [ho]; simp)).2; omega
  have hx : Ext own (omark (omark own (fun k => k = tb) a) (fun k => k = m) b) := by
    refine (omark_ext (S := fun k => k = tb) (t := a) fun k e => .inr (hno k (by omega))).trans (omark_ext fun k e => .inr ?_)
    rw [omark_out (by show ¬ k = tb; omega)]
    exact hno k (by omega)
  have nS : ∀ u, u ≠ 0 → ∀ k, A k → own k ≠ some u := fun u hu k e => by rw [hA k e]; simpa using Ne.symm hu
  refine ⟨_, ⟨hk.at h.head (fun e => nS 1 (by omega) rb e h.orb), hx _ _ h.orb, h.kp.trans hk (fun k hlt e => (h.olt k (by rw [hA k e]; simp)).1.resolve_left (by omega)), fun k e => ?_, ⟨A, hl, fun k e => hx _ _ (hA k e)⟩, fun t ht => (h.op t ht).keep hk hx (fun k e => ⟨nS _ (by omega) k e, nS _ (by omega) k e⟩), h.of, fun t ht => (h.mine t ht).keep hk hx (nS _ (by omega)), fun t ht => (h.stk t ht).keep hk hx (nS _ (by omega)), h.sw, h.seen, h.steps⟩, ?_, omark_in rfl⟩
  · rcases omark_ne e with e | e
    · exact ⟨.inl (by have := h.kp.size; omega), by omega⟩
    · rcases omark_ne e with e | e
      · exact ⟨.inl (by have := h.kp.size; omega), by omega⟩
      · exact ⟨(h.olt k e).1, Nat.lt_of_lt_of_le (h.olt k e).2 hk.size⟩
  · rw [omark_out (fun e => hne e.symm)]
    exact omark_in rfl
set_option maxRecDepth 100000 in
set_option maxHeartbeats 4000000 in
theorem ract_give (h : RunAt w0 w c R rb pb L own f) (hi : PInv c R) (hb : SB R) (hok : c.ok) (hl : R.s.log.length < 1000000) (ht : t < 6) (ho : R.ops t = none) (y : Int) (r : List Int) (hm : R.mine t = y :: r) (kk : Nat) (hkk : c.hs[y.toNat - 1]? = some kk) (k : Int) :
    Calls Try.prog 29 #[.pointer (some ⟨rb, 0, none⟩), .int .i64 (t : Int), .bool true, .int .i64 k] w fun e w' => e = .returned (.bool true) ∧ RunTo w0 c ((R.begG t kk y).step1 c t) rb pb L w' := by
  have t0 : (0 : Int) ≤ (t : Int) := by omega
  have t6 : (t : Int) < 6 := by omega
  have hop := h.op t ht
  rw [ho] at hop
  obtain ⟨e0, e1⟩ := OpAt.none_ hop
  have hmx : (R.mine t).head? = some y := by rw [hm]; rfl
  have hk6 := hok.hs kk (List.mem_of_getElem? hkk)
  have hi2 := hi.begG ht ho hmx hkk hk6.1 hk6.2
  obtain ⟨hf1, hf2, hf3⟩ := hi.first ht ho hmx
  have hb2 : SB (R.begG t kk y) := hb
  obtain ⟨x, hx⟩ := hi2.word (t := t) (o := PO.give t kk y) ht pup_me
  have hgo : (R.begG t kk y).step1 c t = (R.begG t kk y).go c t (PO.give t kk y) x := by
    have hbo : (R.begG t kk y).ops t = some (PO.give t kk y) := pup_me
    unfold PRun.step1
    rw [hbo]
    simp only [hx, Option.getD_some]
  rw [hgo]
  have q2 : w.cell? ⟨rb, 2 + t, none⟩ = some (.pointer none) := e0 ▸ h.cell (j := 0) (by decide) ht
  have q8 : w.cell? ⟨rb, 8 + t, none⟩ = some (.pointer none) := e1 ▸ h.cell (j := 1) (by decide) ht
  have q14 : w.cell? ⟨rb, 14 + t, none⟩ = some (.int .i64 (R.of t)) := (h.of t ht) ▸ h.cell (j := 2) (by decide) ht
  have z14 : w.frozen? ⟨rb, 14 + t, none⟩ = false := h.free _
  obtain ⟨vm, hvm⟩ : ∃ v, v = f 3 t := ⟨_, rfl⟩
  have hm1 : ORow w 3 vm (y :: r) := by
    have := (h.mine t ht).1
    rw [hm, ← hvm] at this
    exact this
  have q20 : w.cell? ⟨rb, 20 + t, none⟩ = some vm := hvm ▸ h.cell (j := 3) (by decide) ht
  obtain ⟨g, off, cp, rfl, hc1, hc2, hc3, -⟩ := hm1.rest
  have n0 : (0 : Int) < (r.length : Int) + 1 := by omega
  have n1 : 0 < r.length + 1 := by omega
  have n2 : decide ((0 : Int) < (r.length : Int) + 1) = true := decide_eq_true n0
  have H0 := hid (h.setOf ht y)
  obtain ⟨W, hW⟩ : ∃ W, W = (w.setCell ⟨rb, 14 + t, none⟩ (.int .i64 y)).drew := ⟨_, rfl⟩
  have H1 := hid (show RunAt w0 W c _ rb pb L _ _ from hW ▸ H0.out.quiet ((Keep.refl Nil _).drew))
  have HW := hid hW
  have HI := hid hi2
  have HB := hid hb2
  have HX := hid hx
  have HE := hid (And.intro e0 e1)
  have HKK := hid hkk
  have HF := hid (And.intro hf1 (And.intro hf2 hf3))
  clear h hi hb ho hop hi2 hb2 hx e0 e1 hgo hW H0 hm hmx hk6 hkk hf1 hf2 hf3 hm1 hvm hc1 hc2
  go_enter Try.func29, Try.ntmps29
  go_upto_region 4 with fail
  go_region
  rw [← HW.out]
  clear q2 q8 q14 z14 q20 hc3 n0 n1 n2
  have q1 := H1.out.cell0.2
  have q14 : W.cell? ⟨rb, 14 + t, none⟩ = some (.int .i64 y) := by
    have := H1.out.cell (j := 2) (i := t) (by decide) ht
    rw [fset_me] at this
    exact this
  obtain ⟨A, ⟨mb, ob, gb, F, G, hpa⟩, hA⟩ := H1.out.pl
  have HPA := hid hpa
  have HA := hid hA
  have KD := hid ((Keep.refl Nil W).drew)
  clear hpa hA
  go_wp2
  go_region_held3 (fun w' => w'.cell? ⟨rb, 1, none⟩ = some (.pointer (some ⟨pb, 0, none⟩)) ∧ w'.cell? ⟨rb, 14 + t, none⟩ = some (.int .i64 y)) (first | exact ⟨cs_ne i1 (.inr (by omega)), cs_ne i14 (.inr (by omega))⟩ | go_keep)
    (first
      | (go_at_call 23; (with_reducible refine (pgive_ok (w := W.drew) (HPA.out.quiet KD.out) hok (t : Int) y t0 (by omega) HF.out.2.1 HF.out.2.2 HF.out.1 kk HKK.out).mono ?_); rintro e w10 ⟨tb, m, rfl, hlie, htk, hk, n1, n2⟩; obtain ⟨own2, h2, o1, o2⟩ := (H1.out.quiet KD.out).moreG HA.out hlie hk n1 n2 htk.lt.1 htk.lt.2 htk.ne (2 + t) (8 + t); have H2 := hid h2; have HTK := hid htk; have HO := hid (And.intro o1 o2); have i1 := h2.cell0.2; have i14 : w10.cell? ⟨rb, 14 + t, none⟩ = some (.int .i64 y) := (by have := h2.cell (j := 2) (i := t) (by decide) ht; rw [fset_me] at this; exact this); have i8 : w10.cell? ⟨rb, 8 + t, none⟩ = some (.pointer none) := HE.out.2 ▸ h2.cell (j := 1) (by decide) ht; have iz8 : w10.frozen? ⟨rb, 8 + t, none⟩ = false := h2.free _; clear hlie htk hk n1 n2 h2 o1 o2))
  all_goals
    have H3 := hid (H2.out.beg1 ht HE.out.1 HTK.out HO.out.1 HO.out.2)
    obtain ⟨W3, hW3⟩ : ∃ W3, W3 = w10.setCell ⟨rb, 8 + t, none⟩ (.pointer (some ⟨tb, 0, none⟩)) := ⟨_, rfl⟩
    have H3' := hid (show RunAt w0 W3 c (R.begG t kk y) rb pb L _ _ from hW3 ▸ H3.out)
    rw [← hW3]
    have j2 : W3.cell? ⟨rb, 2 + t, none⟩ = some (.pointer none) := HE.out.1 ▸ H3'.out.cell (j := 0) (by decide) ht
    have j8 : W3.cell? ⟨rb, 8 + t, none⟩ = some (.pointer (some ⟨tb, 0, none⟩)) := by
      have := H3'.out.cell (j := 1) (i := t) (by decide) ht
      rw [fset_me] at this
      exact this
    clear hW3 H3 i1 i14 i8 iz8 q1 q14 H2 HTK
    go_wp2_with fail
    refine (rgive_any H3'.out HI.out HB.out hok hl ht pup_me rfl HX.out).mono ?_
    rintro e w9 ⟨rfl, hr⟩
    have HR := hid hr
    clear hr
    go_wp2
    go_ret
    exact ⟨rfl, HR.out⟩
/-- A step of a thread, whatever it is. -/
theorem ract_any (h : RunAt w0 w c R rb pb L own f) (hi : PInv c R) (hb : SB R) (hok : c.ok) (hl : R.s.log.length < 1000000) (ht : t < 6) (g : Bool) (k : Nat) (k1 : 1 ≤ k) (k6 : k ≤ 6) :
    Calls Try.prog 29 #[.pointer (some ⟨rb, 0, none⟩), .int .i64 (t : Int), .bool g, .int .i64 (k : Int)] w fun e w' => e = .returned (.bool true) ∧ RunTo w0 c (R.act c t g k) rb pb L w' := by
  unfold PRun.act PRun.beg
  cases ho : R.ops t with
  | some o =>
    obtain ⟨x, hx⟩ := hi.word ht ho
    have hgo : R.step1 c t = R.go c t o x := by
      unfold PRun.step1
      rw [ho]
      simp only [hx, Option.getD_some]
    simp only [hgo]
    exact ract_on h hi hb hok hl ht ho hx g k
  | none =>
    cases g with
    | false =>
      simp only [Bool.false_eq_true, if_false]
      exact ract_take0 h hi hb hok hl ht ho k k1 k6
    | true =>
      cases hm : R.mine t with
      | nil =>
        simp only [if_true, List.head?_nil]
        exact ract_take1 h hi hb hok hl ht ho hm k k1 k6
      | cons y r =>
        have hmx : (R.mine t).head? = some y := by rw [hm]; rfl
        obtain ⟨-, h2, h3⟩ := hi.first ht ho hmx
        obtain ⟨kk, hkk⟩ : ∃ kk, c.hs[y.toNat - 1]? = some kk := ⟨_, List.getElem?_eq_getElem (by have : c.nT = c.hs.length := rfl; omega)⟩
        simp only [if_true, List.head?_cons, hkk, Option.getD_some]
        exact ract_give h hi hb hok hl ht ho y r hm kk hkk k
end
end Go.Proofs.Ytjghenomeindcaa
